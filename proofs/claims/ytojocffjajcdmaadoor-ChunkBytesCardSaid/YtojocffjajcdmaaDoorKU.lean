/- Things of one's own into whose inner rows a walk writes: what stays. Chunks of one's own. -/
import Derived.Test.YtojocffjajcdmaaDoorKY
import Derived.Test.YtojocffjajcdmaaDoorKR
import Derived.Test.YtojocffjajcdmaaDoorKZ
import Derived.Test.YtojocffjajcdmaaDoorKT
namespace Go.Proofs.YtojocffjajcdmaaDoor.RF
open Go Go.RowKit Go.Shelf Go.Sort Go.Proofs.YtojocffjajcdmaaDoor Go.Proofs.YtojocffjajcdmaaDoorW.PrintWords Go.Proofs.YtojocffjajcdmaaDoorW.PrintLast Go.Proofs.YtojocffjajcdmaaDoorW.PrintMore PChunkAll
set_option linter.unusedVariables false
set_option linter.unusedSimpArgs false

/-- A row of one's own of things of T, each with a row of its own of E, whose cells may be anything by now. -/
structure SpoI {α : Type} (T k E s : Nat) (enc : α → List Value) (A : α → Option Addr) (n c : α → Nat) (B : Nat) (v : Value) (rs : List α) (w0 W : World) : Prop where
  own : W.ownsRow B T k v rs.length (rs.flatMap enc)
  labs : ∀ r ∈ rs, ∃ cs, W.ownsRow B E s (.slice (A r) (n r) (c r)) (n r) cs
  below : Below B w0 W
  le : B ≤ W.heap.size
section
variable {α : Type} {T k E s : Nat} {enc : α → List Value} {A : α → Option Addr} {n c : α → Nat} {B : Nat} {v : Value} {rs : List α} {w0 W : World}
/-- A cell of an inner row: it lies, and may be written. -/
theorem SpoI.at (h : SpoI T k E s enc A n c B v rs w0 W) {r : α} (hr : r ∈ rs) {i j : Nat} (hi : i < n r) (hj : j < s) :
    ∃ g, A r = some ⟨g, 0, none⟩ ∧ B ≤ g ∧ (∃ cur fz, W.heap[g]? = some (.cells cur E fz)) ∧ (∃ u, W.cell? ⟨g, i * s + j, none⟩ = some u) ∧ W.frozen? ⟨g, i * s + j, none⟩ = false := by
  obtain ⟨cs, hc⟩ := h.labs r hr
  rcases hc.2 with ⟨h1, h2⟩ | ⟨q, cap, cur, h1, h2, h3, h4, h5, h6, h7⟩
  · omega
  · injection h1 with a1 a2 a3
    have l1 : i * s + j < cur.size := by
      rw [h6]
      have : (i + 1) * s ≤ cap * s := Nat.mul_le_mul_right _ (by omega)
      rw [Nat.succ_mul] at this
      omega
    exact ⟨q, a1, h2, ⟨_, _, h3⟩, ⟨cur[i * s + j], by simp [World.cell?, h3, l1]⟩, by simp [World.frozen?, h3]⟩
theorem SpoI.alloc (h : SpoI T k E s enc A n c B v rs w0 W) (o : Obj) : SpoI T k E s enc A n c B v rs w0 (W.alloc o) :=
  ⟨own_below h.own ((Below.refl _ _).alloc (Nat.le_refl _) o), fun r hr => (h.labs r hr).imp fun cs hc => own_below hc ((Below.refl _ _).alloc (Nat.le_refl _) o), h.below.alloc h.le o, by have := h.le; simp; omega⟩
theorem SpoI.drew (h : SpoI T k E s enc A n c B v rs w0 W) : SpoI T k E s enc A n c B v rs w0 W.drew :=
  ⟨h.own, h.labs, h.below.drew, h.le⟩
end
theorem own_ne_blk {B : Nat} {e T k n : Nat} {v : Value} {xs : List Value} {W : World} {b : Nat} {cs : Array Value} (h : W.ownsRow B e k v n xs) (hb : Blk W b cs T) (ht : T ≠ e) : v.ownBlock ≠ some b := by
  intro q
  rcases h.2 with ⟨rfl, _⟩ | ⟨g', cap', cur', rfl, _, h6, _⟩
  · cases q
  · simp [Value.ownBlock] at q; subst q; rw [hb.out] at h6; injection h6 with h6; injection h6 with _ h6 _; exact ht h6
theorem own_kept {X X' : World} {B e k n : Nat} {v : Value} {xs : List Value} {row : Option Nat} (h : X.ownsRow B e k v n xs) (hg : X.grownBy X' row) (hne : v.ownBlock ≠ row ∨ v.ownBlock = none) : X'.ownsRow B e k v n xs := by
  refine ⟨h.1, ?_⟩
  rcases h.2 with h2 | ⟨g, cap, cur, rfl, h3, h4, h5⟩
  · exact .inl h2
  · refine .inr ⟨g, cap, cur, rfl, h3, (hg.block g (Array.getElem?_eq_some_iff.1 h4).1 (fun q => ?_)).trans h4, h5⟩
    rcases hne with h | h
    · exact h q
    · cases h
/-! ### Chunks of one's own -/
structure RK where
  A1 : Option Addr
  c1 : Nat
  ls : List S112
  A2 : Option Addr
  c2 : Nat
  rows : List S71
def RK.cells (r : RK) : List Value := [.slice r.A1 r.ls.length r.c1, .slice r.A2 r.rows.length r.c2]
def RK.x (r : RK) : List S112 × List S71 := (r.ls, r.rows)
/-- Chunks laid since block B (T: a chunk's type, E: a row's). -/
structure ChksO (T E : Nat) (B : Nat) (v : Value) (rs : List RK) (W : World) : Prop where
  own : W.ownsRow B T 2 v rs.length (rs.flatMap RK.cells)
  labs : ∀ r ∈ rs, r.ls.length ≤ r.c1 ∧ W.ownsRow B 112 2 (.slice r.A1 r.ls.length r.c1) r.ls.length (lcells r.ls)
  rows : ∀ r ∈ rs, r.rows.length ≤ r.c2 ∧ W.ownsRow B E 3 (.slice r.A2 r.rows.length r.c2) r.rows.length (rcells r.rows)
theorem ChksO.below {T E B : Nat} {v : Value} {rs : List RK} {W W' : World} (h : ChksO T E B v rs W) (hb : Below W.heap.size W W') : ChksO T E B v rs W' :=
  ⟨own_below h.own hb, fun r hr => ⟨(h.labs r hr).1, own_below (h.labs r hr).2 hb⟩, fun r hr => ⟨(h.rows r hr).1, own_below (h.rows r hr).2 hb⟩⟩
theorem ChksO.nil (T E B : Nat) (W : World) : ChksO T E B (.slice none 0 0) [] W := ⟨⟨rfl, .inl ⟨rfl, rfl⟩⟩, fun r hr => (by cases hr), fun r hr => (by cases hr)⟩
/-- A row of one's own of another type stays where a row of T is grown. -/
theorem own_grown {W W' : World} {B T e k k' n n' : Nat} {v v' : Value} {xs xs' : List Value} (h : W.ownsRow B T k v n xs) (hg : W.grownBy W' v.ownBlock) (h' : W.ownsRow B e k' v' n' xs') (hne : T ≠ e) : W'.ownsRow B e k' v' n' xs' := by
  refine ⟨h'.1, ?_⟩
  rcases h'.2 with h2 | ⟨g, cap, cur, h2, h3, h4, h5⟩
  · exact .inl h2
  · refine .inr ⟨g, cap, cur, h2, h3, ?_, h5⟩
    rw [hg.block g (Array.getElem?_eq_some_iff.1 h4).1 (fun q => ?_)]; exact h4
    rcases h.2 with ⟨rfl, _⟩ | ⟨g', cap', cur', rfl, _, h6, _⟩
    · cases q
    · simp [Value.ownBlock] at q; subst q; rw [h4] at h6; injection h6 with h6; injection h6 with _ h6 _; exact hne h6.symm
/-- Chunks, one more. -/
theorem ChksO.snoc {T E B : Nat} {v v' : Value} {rs : List RK} {r : RK} {W W' : World} (h : ChksO T E B v rs W) (hT : T ≠ 112) (hE : T ≠ E) (h1 : W'.ownsRow B T 2 v' (rs.length + 1) (rs.flatMap RK.cells ++ r.cells)) (hg : W.grownBy W' v.ownBlock)
    (hl : r.ls.length ≤ r.c1 ∧ W.ownsRow B 112 2 (.slice r.A1 r.ls.length r.c1) r.ls.length (lcells r.ls)) (hr : r.rows.length ≤ r.c2 ∧ W.ownsRow B E 3 (.slice r.A2 r.rows.length r.c2) r.rows.length (rcells r.rows)) : ChksO T E B v' (rs ++ [r]) W' := by
  refine ⟨by simpa using h1, fun q hq => ?_, fun q hq => ?_⟩
  · have hq' : q.ls.length ≤ q.c1 ∧ W.ownsRow B 112 2 (.slice q.A1 q.ls.length q.c1) q.ls.length (lcells q.ls) := by
      rcases List.mem_append.1 hq with hq | hq
      · exact h.labs q hq
      · rw [List.mem_singleton] at hq; subst hq; exact hl
    exact ⟨hq'.1, own_grown h.own hg hq'.2 hT⟩
  · have hq' : q.rows.length ≤ q.c2 ∧ W.ownsRow B E 3 (.slice q.A2 q.rows.length q.c2) q.rows.length (rcells q.rows) := by
      rcases List.mem_append.1 hq with hq | hq
      · exact h.rows q hq
      · rw [List.mem_singleton] at hq; subst hq; exact hr
    exact ⟨hq'.1, own_grown h.own hg hq'.2 hE⟩
/-- Chunks that read. -/
structure ChksR (A : Option Addr) (n : Nat) (rs : List RK) (W : World) : Prop where
  len : n = rs.length
  row : RowC W A (rs.flatMap RK.cells)
  labs : ∀ r ∈ rs, r.ls.length ≤ r.c1 ∧ Kd.C k112 W r.A1 r.ls.length r.ls
  rows : ∀ r ∈ rs, r.rows.length ≤ r.c2 ∧ RowC W r.A2 (rcells r.rows)
theorem ChksO.reads {T E B : Nat} {A : Option Addr} {n c : Nat} {rs : List RK} {W : World} (h : ChksO T E B (.slice A n c) rs W) (hl : ∀ r ∈ rs, r.ls.length ≤ 9223372036854775807) : ChksR A n rs W ∧ n ≤ c := by
  have hn : n = rs.length ∧ n ≤ c := by
    rcases h.own.2 with ⟨h1, h2⟩ | ⟨g, cap, cur, h1, _, _, h3, _⟩
    · injection h1 with a1 a2 a3; omega
    · injection h1 with a1 a2 a3; omega
  obtain ⟨rfl, hc⟩ := hn
  exact ⟨⟨rfl, own_rowC h.own, fun r hr => ⟨(h.labs r hr).1, C_lab (hl r hr) (own_rowC (h.labs r hr).2)⟩, fun r hr => ⟨(h.rows r hr).1, own_rowC (h.rows r hr).2⟩⟩, hc⟩
theorem ChksR.below {A : Option Addr} {n : Nat} {rs : List RK} {W W' : World} (h : ChksR A n rs W) (hb : Below W.heap.size W W') : ChksR A n rs W' :=
  ⟨h.len, h.row.below hb, fun r hr => ⟨(h.labs r hr).1, Kd.C_below (h.labs r hr).2 hb⟩, fun r hr => ⟨(h.rows r hr).1, (h.rows r hr).2.below hb⟩⟩
end Go.Proofs.YtojocffjajcdmaaDoor.RF
/- The decoder's Signed; what chunk.Get makes of bytes, plainly. -/
namespace Go.Proofs.YtojocffjajcdmaaDoor.RF
open Go Go.RowKit Go.Shelf Go.Sort Go.Proofs.YtojocffjajcdmaaDoor Go.Proofs.YtojocffjajcdmaaDoorW.PrintWords Go.Proofs.YtojocffjajcdmaaDoorW.PrintLast Go.Proofs.YtojocffjajcdmaaDoorW.PrintMore PChunkAll
set_option linter.unusedVariables false
set_option linter.unusedSimpArgs false

/-- A number with its sign, read. -/
def dzig (n : Int) : Int := if n % 2 = 0 then n / 2 else -(n / 2) - 1
theorem labs_own {W : World} {B : Nat} {ok : Nat → Prop} {v : Value} {ls : List S112} (h : Kd.R k112 112 W B ok v ls) : W.ownsRow B 112 2 v ls.length (lcells ls) := by
  obtain ⟨_, inner, ho, hr⟩ := h
  have : inner = lcells ls := by
    apply List.ext_getElem?
    intro j
    have hl : inner.length = ls.length * 2 := hr.1
    rcases Nat.lt_or_ge j (ls.length * 2) with hj | hj
    · have hi : j / 2 < ls.length := by omega
      have h2 := k112_openM (hr.2 (j / 2) _ (List.getElem?_eq_getElem hi))
      have e : ((inner.drop (j / 2 * 2)).take 2)[j % 2]? = inner[j]? := by
        rw [List.getElem?_take, if_pos (by omega), List.getElem?_drop]
        congr 1
        omega
      have f := flat_get (fun x : S112 => [Value.string x.f0, .string x.f1]) 2 (fun _ => rfl) ls (j / 2) (j % 2) hi (by omega)
      rw [show j / 2 * 2 + j % 2 = j by omega] at f
      rw [← e]
      show _ = (ls.flatMap fun x : S112 => [Value.string x.f0, .string x.f1])[j]?
      rw [f]
      exact congrArg (·[j % 2]?) h2
    · rw [List.getElem?_eq_none (by omega), List.getElem?_eq_none (by rw [lcells_len]; omega)]
  rw [← this]
  exact ho
theorem i64_and1 (n : Int) (h0 : 0 ≤ n) (h1 : n < 72057594037927936) : bits .and .i64 n 1 = n % 2 :=
  bits_mask .i64 63 (by decide) (fun n h0 h1 => by rw [IntKind.wrap_i64]; omega) 1 (by decide) n h0 (by omega)
theorem i64_xor0 (m : Nat) (h : m < 72057594037927936) : bits .xor .i64 (m : Int) 0 = m := by
  show IntKind.i64.wrap ((BitVec.ofInt 64 (m : Int) ^^^ BitVec.ofInt 64 0).toNat : Int) = _
  have h1 : (BitVec.ofInt 64 (m : Int)).toNat = m := by
    rw [BitVec.ofInt_natCast, BitVec.toNat_ofNat]; exact Nat.mod_eq_of_lt (by omega)
  have h2 : (BitVec.ofInt 64 (0 : Int)).toNat = 0 := by decide
  rw [BitVec.toNat_xor, h1, h2, Nat.xor_zero, IntKind.wrap_i64]
  omega
theorem i64_xor1 (m : Nat) (h : m < 72057594037927936) : bits .xor .i64 (m : Int) (-1) = -(m : Int) - 1 := by
  show IntKind.i64.wrap ((BitVec.ofInt 64 (m : Int) ^^^ BitVec.ofInt 64 (-1)).toNat : Int) = _
  have h1 : (BitVec.ofInt 64 (m : Int)).toNat = m := by
    rw [BitVec.ofInt_natCast, BitVec.toNat_ofNat]; exact Nat.mod_eq_of_lt (by omega)
  have h2 : (BitVec.ofInt 64 (-1 : Int)).toNat = 18446744073709551615 := by decide
  rw [BitVec.toNat_xor, h1, h2, xor_ones m (by omega), IntKind.wrap_i64]
  omega
theorem dzig_bits (n : Int) (h0 : 0 ≤ n) (h1 : n < 72057594037927936) : bits .xor .i64 (n / 2) (wrap64 (-bits .and .i64 n 1)) = dzig n := by
  rw [i64_and1 n h0 h1]
  unfold dzig
  obtain ⟨m, hm⟩ : ∃ m : Nat, n / 2 = (m : Int) := ⟨(n / 2).toNat, by omega⟩
  by_cases h : n % 2 = 0
  · rw [if_pos h, h, hm, show wrap64 (-0) = 0 by unfold wrap64; omega]
    exact i64_xor0 m (by omega)
  · rw [if_neg h, show n % 2 = 1 by omega, hm, show wrap64 (-1) = -1 by unfold wrap64; omega]
    exact i64_xor1 m (by omega)
set_option maxHeartbeats 4000000 in
set_option maxRecDepth 100000 in
theorem dsig_any (g : Nat) (bs : List Int) (er : Int) (w : World) (h : DecAt w g bs er) : Calls Tryd.prog 115 #[.pointer (some ⟨g, 0, none⟩)] w fun e w' => e = .returned (.int .i64 (dzig (numS bs er).1)) ∧ DecAt w' g (numS bs er).2.1 (numS bs er).2.2 ∧ w.grownBy w' (some g) := by
  have HU := Lib.hid (dnum_any g bs er w h)
  have hv := numS_val bs er
  generalize numS bs er = r at *
  obtain ⟨n, bs1, e1⟩ := r
  simp only at hv HU ⊢
  obtain ⟨hv0, hv1⟩ := hv
  clear h
  go_enter Tryd.func115, Tryd.ntmps115
  go_wp2_with (go_at_call 86; (with_reducible refine (HU.out).mono ?_); rintro e w2 ⟨rfl, hd, hgr⟩; have HD := Lib.hid hd; have HG := Lib.hid hgr; clear hd hgr)
  rw [dzig_bits n hv0 hv1]
  go_ret
  exact ⟨rfl, HD.out, HG.out⟩
/-! ### What Get makes of bytes -/
/-- A row read: the row, what is left, the fault. f: it is the first one; p: the one ahead of it. -/
def rowG (f : Bool) (p : S71) (bs : List Int) (er : Int) : S71 × List Int × Int :=
  let a := numS bs er
  let b := numS a.2.1 a.2.2
  let t := textS b.2.1 b.2.2
  (⟨if f = true then b.1 else wrap64 (p.f0 + dzig b.1), wrap64 (p.f1 + a.1), t.1⟩, t.2.1, t.2.2)
/-- k rows read behind p: the rows and what is left, or none where a fault was met. -/
def rowsG : Bool → S71 → List Int → Int → Nat → Option (List S71 × List Int × Int)
  | _, _, bs, er, 0 => some ([], bs, er)
  | f, p, bs, er, k + 1 =>
    if (rowG f p bs er).2.2 = 0 then (rowsG false (rowG f p bs er).1 (rowG f p bs er).2.1 0 k).map fun r => ((rowG f p bs er).1 :: r.1, r.2)
    else none
/-- What chunk.Get answers. -/
def getC (bs : List Int) : List S112 × List S71 × Int :=
  let t := textS bs 0
  let ls := (readL (bytesOf t.1)).1
  let n := numS t.2.1 t.2.2
  if 1000 < n.1 then ([], [], 21)
  else match rowsG true z71 n.2.1 n.2.2 n.1.toNat with
    | none => ([], [], 21)
    | some (rows, b, e) => if doneG b e ≠ 0 ∨ rightC ls rows = false then ([], [], 21) else (ls, rows, 0)
end Go.Proofs.YtojocffjajcdmaaDoor.RF
/- chunk.Get: what stands between two rounds. -/
namespace Go.Proofs.YtojocffjajcdmaaDoor.RF
open Go Go.RowKit Go.Shelf Go.Sort Go.Proofs.YtojocffjajcdmaaDoor Go.Proofs.YtojocffjajcdmaaDoor.RS Go.Proofs.YtojocffjajcdmaaDoorW.PrintWords Go.Proofs.YtojocffjajcdmaaDoorW.PrintLast Go.Proofs.YtojocffjajcdmaaDoorW.PrintMore PChunkAll
set_option linter.unusedVariables false
set_option linter.unusedSimpArgs false

structure GS (w : World) (g C R : Nat) (al : Option Addr) (cl : Nat) (ls : List S112) (v : Value) (rows : List S71) (p : S71) (bs : List Int) (er : Int) (W : World) : Prop where
  res : Blk W w.heap.size #[.slice none 0 0, .slice none 0 0] 53
  dec : DecAt W g bs er
  ch : Blk W C #[.slice al ls.length cl, v] 53
  row : Blk W R (rowC p) 71
  labs : W.ownsRow (g + 1) 112 2 (.slice al ls.length cl) ls.length (lcells ls)
  rows : W.ownsRow (R + 1) 71 3 v rows.length (rcells rows)
  low : Below w.heap.size w W
  o1 : w.heap.size < g
  o2 : g < C
  o3 : C < R
section
variable {w : World} {g C R : Nat} {al : Option Addr} {cl : Nat} {ls : List S112} {v : Value} {rows : List S71} {p : S71} {bs bs' : List Int} {er er' : Int} {W W' : World}
theorem GS.step (h : GS w g C R al cl ls v rows p bs er W) (hd : DecAt W' g bs' er') (hg : W.grownBy W' (some g)) : GS w g C R al cl ls v rows p bs' er' W' :=
  have o1 := h.o1
  have o2 := h.o2
  have o3 := h.o3
  ⟨Blk.grown h.res hg (fun e => by injection e with e; omega), hd, Blk.grown h.ch hg (fun e => by injection e with e; omega), Blk.grown h.row hg (fun e => by injection e with e; omega),
    own_kept h.labs hg (.inl (fun e => by have := own_ge h.labs e; omega)), own_kept h.rows hg (.inl (fun e => by have := own_ge h.rows e; omega)),
    h.low.grown hg h.low.size (fun k e => by injection e with e; omega), o1, o2, o3⟩
theorem GS.below (h : GS w g C R al cl ls v rows p bs er W) (hb : Below W.heap.size W W') : GS w g C R al cl ls v rows p bs er W' :=
  ⟨Blk.below h.res hb h.res.lt, h.dec.below hb, Blk.below h.ch hb h.ch.lt, Blk.below h.row hb h.row.lt, own_below h.labs hb, own_below h.rows hb, below_step h.low hb, h.o1, h.o2, h.o3⟩
theorem GS.set (h : GS w g C R al cl ls v rows p bs er W) (j : Nat) (u : Value) {p' : S71} (hp : (rowC p).setIfInBounds j u = rowC p') : GS w g C R al cl ls v rows p' bs er (W.setCell ⟨R, j, none⟩ u) :=
  have o1 := h.o1
  have o2 := h.o2
  have o3 := h.o3
  ⟨h.res.far _ _ (by show w.heap.size ≠ R; omega), h.dec.set (Nat.lt_trans o2 o3), h.ch.far _ _ (by show C ≠ R; omega), by have := h.row.set j u; rwa [hp] at this,
    ownsRow_setCell_other h.labs (own_ne_blk h.labs h.row (by decide)) u, ownsRow_setCell_other h.rows (fun e => by have := own_ge h.rows e; simp only at this; omega) u,
    h.low.setCell (p := ⟨R, j, none⟩) (by show w.heap.size ≤ R; omega) u, o1, o2, o3⟩
/-- A row more. -/
theorem GS.push (h : GS w g C R al cl ls v rows p bs er W) {W1 W2 : World} {v' : Value} (hb : Below W.heap.size W W1) (hg : W1.grownBy W2 v.ownBlock) (ho : W2.ownsRow (R + 1) 71 3 v' (rows.length + 1) (rcells rows ++ [.int .i64 p.f0, .int .i64 p.f1, .string p.f2])) :
    GS w g C R al cl ls v' (rows ++ [p]) p bs er (W2.setCell ⟨C, 1, none⟩ v') :=
  have o1 := h.o1
  have o2 := h.o2
  have o3 := h.o3
  have k := h.below hb
  have hvb : ∀ q, v.ownBlock = some q → R + 1 ≤ q := fun q e => own_ge k.rows e
  have hch : Blk W2 C #[.slice al ls.length cl, v] 53 := Blk.grown k.ch hg (fun e => by have := hvb _ e; omega)
  have hlabs : W2.ownsRow (g + 1) 112 2 (.slice al ls.length cl) ls.length (lcells ls) := own_grown (own_le (B' := g + 1) k.rows (by omega)) hg k.labs (by decide)
  have hdec : DecAt W2 g bs er := k.dec.low (by
    refine ⟨hg.os, hg.tape, hg.output, hg.size, fun q hq => hg.block q (Nat.lt_of_lt_of_le hq (by have := k.dec.lt; omega)) (fun e => ?_)⟩
    have := hvb q e.symm
    omega)
  ⟨(Blk.grown k.res hg (fun e => by have := hvb _ e; omega)).far _ _ (by show w.heap.size ≠ C; omega), hdec.set o2, by have := hch.set 1 v'; simpa using this,
    (Blk.grown k.row hg (fun e => by have := hvb _ e; omega)).far _ _ (by show R ≠ C; omega),
    ownsRow_setCell_other hlabs (own_ne_blk hlabs hch (by decide)) v', by
      have e : rcells (rows ++ [p]) = rcells rows ++ [.int .i64 p.f0, .int .i64 p.f1, .string p.f2] := by unfold rcells; rw [List.flatMap_append]; rfl
      rw [e, List.length_append]
      exact ownsRow_setCell_other ho (own_ne_blk ho hch (by decide)) v',
    (k.low.grown hg k.low.size (fun q e => by have := hvb q e; omega)).setCell (p := ⟨C, 1, none⟩) (by show w.heap.size ≤ C; omega) _, o1, o2, o3⟩
end
end Go.Proofs.YtojocffjajcdmaaDoor.RF
/- chunk.Get: walked. -/
namespace Go.Proofs.YtojocffjajcdmaaDoor.RF
open Go Go.RowKit Go.Shelf Go.Sort Go.Proofs.YtojocffjajcdmaaDoor Go.Proofs.YtojocffjajcdmaaDoor.RS Go.Proofs.YtojocffjajcdmaaDoorW.PrintWords Go.Proofs.YtojocffjajcdmaaDoorW.PrintLast Go.Proofs.YtojocffjajcdmaaDoorW.PrintMore PChunkAll
set_option linter.unusedVariables false
set_option linter.unusedSimpArgs false

theorem wf_small {x : Int} (h0 : -9223372036854775808 ≤ x) (h1 : x ≤ 9223372036854775807) : (Lit.int .i64 x).wf = true := by
  have e1 : IntKind.i64.min = -9223372036854775808 := rfl
  have e2 : IntKind.i64.max = 9223372036854775807 := rfl
  simp [Lit.wf, e1, e2]
  exact ⟨h0, h1⟩
theorem rowG_wf (f : Bool) (p : S71) (bs : List Int) (er : Int) : (Lit.int .i64 (rowG f p bs er).1.f0).wf = true := by
  unfold rowG
  dsimp only
  split
  · have := numS_val (numS bs er).2.1 (numS bs er).2.2
    exact wf_small (by omega) (by omega)
  · unfold wrap64
    exact wf_small (by omega) (by omega)
theorem rowsG_wf : ∀ (k : Nat) (f : Bool) (p : S71) (bs : List Int) (er : Int) r, rowsG f p bs er k = some r → ∀ x ∈ r.1, (Lit.int .i64 x.f0).wf = true
  | 0, f, p, bs, er, r, h => fun x hx => by
    rw [rowsG] at h; injection h with h; subst h; cases hx
  | k + 1, f, p, bs, er, r, h => fun x hx => by
    rw [rowsG] at h
    split at h
    · obtain ⟨q, hq, e⟩ := Option.map_eq_some_iff.1 h
      subst e
      rcases List.mem_cons.1 hx with rfl | hx
      · exact rowG_wf _ _ _ _
      · exact rowsG_wf k _ _ _ _ q hq x hx
    · cases h
theorem readL_len (bs : List Int) : (readL bs).1.length ≤ 17 := by
  unfold readL
  split
  · simp
  · show (readS bs).1.length ≤ 17
    unfold readS
    rw [labsS_len]
    unfold cnt
    omega
def GotC (r : List S112 × List S71 × Int) (w : World) (e : Ending) (w' : World) : Prop :=
  ∃ A1 c1 A2 c2, e = .returned (.tuple #[chV A1 r.1.length c1 A2 r.2.1.length c2, .int .i64 r.2.2]) ∧ r.1.length ≤ c1 ∧ r.2.1.length ≤ c2 ∧ Kd.C k112 w' A1 r.1.length r.1 ∧ RowC w' A2 (rcells r.2.1) ∧ Below w.heap.size w w'

theorem row_news (w2 : World) (n : Nat) (hn : n = w2.heap.size) (x : S71) : ∀ j u, ([.int .i64 x.f0, .int .i64 x.f1, .string x.f2] : List Value)[j]? = some u → (w2.alloc (.cells (rowC x) 71)).cell? (Addr.add ⟨n, 0, none⟩ j) = some u := by
  intro j u hu
  rw [addr_add, Nat.zero_add]
  exact (Blk.new w2 (rowC x) 71 n hn).cell j u (by simpa using hu)
theorem row_one (x : S71) : ∀ u ∈ ([.int .i64 x.f0, .int .i64 x.f1, .string x.f2] : List Value), u.oneCell' = true := by
  intro u hu
  simp only [List.mem_cons, List.not_mem_nil, or_false] at hu
  rcases hu with rfl | rfl | rfl <;> rfl
theorem rows_next (o : Option (List S71 × List Int × Int)) (l : List S71) (x : S71) : (o.map fun r => (x :: r.1, r.2)).map (fun r => (l ++ r.1, r.2)) = o.map (fun r => ((l ++ [x]) ++ r.1, r.2)) := by
  cases o with
  | none => rfl
  | some r => simp
def GRel (w : World) (g C R : Nat) (al : Option Addr) (cl : Nat) (ls : List S112) (b5 : List Int) (e5 : Int) (m k : Nat) (wr : World) : Prop :=
  ∃ (l : List S71) (p : S71) (b : List Int) (er : Int) (v : Value), GS w g C R al cl ls v l p b er wr ∧ rowsG true z71 b5 e5 m = (rowsG (k == 0) p b er (m - k)).map (fun r => (l ++ r.1, r.2)) ∧ l.length = k
set_option maxHeartbeats 8000000 in
set_option maxRecDepth 100000 in
theorem getC_any (A : Option Addr) (c : Nat) (bs : List Int) (w : World) (hT : Tabs w) (hr : Kd.C KB w A bs.length bs) (hl : bs.length ≤ 140737488355328) (hB : Byt bs) : Calls Tryd.prog 55 #[.slice A bs.length c] w (GotC (getC bs) w) := by
  have hb0 : Below w.heap.size w (w.alloc (.cells #[.slice none 0 0, .slice none 0 0] 53)) := (Below.refl _ _).alloc (Nat.le_refl _) _
  have k0 : Blk (w.alloc (.cells #[.slice none 0 0, .slice none 0 0] 53)) w.heap.size #[.slice none 0 0, .slice none 0 0] 53 := Blk.new _ _ _ _ rfl
  have HK0 := Lib.hid k0
  have HB0 := Lib.hid hb0
  have HNW := Lib.hid (new_any A c bs _ (Kd.C_alloc hr (.cells #[.slice none 0 0, .slice none 0 0] 53)) hl hB)
  have HT := Lib.hid hT
  have hs3 : (textS bs 0).1.size ≤ 65536 := textS_size _ _
  have HC3 : Hid (∀ g W, DecAt W g bs 0 → Calls Tryd.prog 88 #[.pointer (some ⟨g, 0, none⟩)] W fun e w' => e = .returned (.string (textS bs 0).1) ∧ DecAt w' g (textS bs 0).2.1 (textS bs 0).2.2 ∧ W.grownBy w' (some g)) := Lib.hid (fun g W h => dtext_any g _ _ W h)
  have HC4 : Hid (∀ W, Tabs W → Calls Tryd.prog 87 #[.slice (some ⟨W.heap.size, 0, none⟩) (textS bs 0).1.size (grownCap W (textS bs 0).1.size 0 5)] (Lib.bytesWorld W 5 (textS bs 0).1) (LabsBelow (readL (bytesOf (textS bs 0).1)).1 (readL (bytesOf (textS bs 0).1)).2 (Lib.bytesWorld W 5 (textS bs 0).1))) := Lib.hid (fun W hT' => by
    have h := readL_any (some ⟨W.heap.size, 0, none⟩) (grownCap W (textS bs 0).1.size 0 5) (bytesOf (textS bs 0).1) (Lib.bytesWorld W 5 (textS bs 0).1) (hT'.below (bytes_below (Below.refl _ _) (Nat.le_refl _) 5 _)) (str_C W _ hs3) (by rw [bytesOf_length]; omega) (byt_bytesOf _)
    rw [bytesOf_length] at h
    exact h)
  have HC5 : Hid (∀ g W, DecAt W g (textS bs 0).2.1 (textS bs 0).2.2 → Calls Tryd.prog 86 #[.pointer (some ⟨g, 0, none⟩)] W fun e w' => e = .returned (.int .i64 (numS (textS bs 0).2.1 (textS bs 0).2.2).1) ∧ DecAt w' g (numS (textS bs 0).2.1 (textS bs 0).2.2).2.1 (numS (textS bs 0).2.1 (textS bs 0).2.2).2.2 ∧ W.grownBy w' (some g)) := Lib.hid (fun g W h => dnum_any g _ _ W h)
  have KB3 := fun W => print_bytes (P := Tryd.prog) 9 23 5 Tryd.underlying9 Tryd.underlying23 Tryd.underlying5 (textS bs 0).1 W
  have hnv := numS_val (textS bs 0).2.1 (textS bs 0).2.2
  have HGC : Hid (getC bs = if 1000 < (numS (textS bs 0).2.1 (textS bs 0).2.2).1 then (([], [], 21) : List S112 × List S71 × Int) else match rowsG true z71 (numS (textS bs 0).2.1 (textS bs 0).2.2).2.1 (numS (textS bs 0).2.1 (textS bs 0).2.2).2.2 (numS (textS bs 0).2.1 (textS bs 0).2.2).1.toNat with
    | none => ([], [], 21)
    | some (rows, b, e) => if doneG b e ≠ 0 ∨ rightC (readL (bytesOf (textS bs 0).1)).1 rows = false then ([], [], 21) else ((readL (bytesOf (textS bs 0).1)).1, rows, 0)) := Lib.hid rfl
  have hln : (readL (bytesOf (textS bs 0).1)).1.length ≤ 17 := readL_len _
  generalize getC bs = GC at *
  generalize readL (bytesOf (textS bs 0).1) = RL at *
  generalize numS (textS bs 0).2.1 (textS bs 0).2.2 = NN at *
  generalize textS bs 0 = TT at *
  obtain ⟨s3, b3, e3⟩ := TT
  obtain ⟨ls, e4⟩ := RL
  obtain ⟨n, b5, e5⟩ := NN
  simp only at HC3 HC4 HC5 KB3 HGC hs3 hnv hln
  obtain ⟨hn0, hn1⟩ := hnv
  clear hT hr hl hB hb0 k0
  by_cases hbig : 1000 < n
  · have d1 : decide (1000 < n) = true := decide_eq_true hbig
    have HF : Hid (GC = ([], [], 21)) := Lib.hid (by rw [HGC.out, if_pos hbig])
    clear HGC
    go_enter Tryd.func55, Tryd.ntmps55
    go_wp2_with (first
    | (go_at_call 85; (with_reducible refine (HNW.out).mono ?_); rintro e w2 ⟨g, rfl, hg, hd, hb⟩; have HD2 := Lib.hid hd; have HG : Hid (w.heap.size < g) := Lib.hid (by have h1 : (w.alloc (.cells #[.slice none 0 0, .slice none 0 0] 53)).heap.size = w.heap.size + 1 := (by simp); omega); have HB2 := Lib.hid (below_step HB0.out hb); have HK2 := Lib.hid (Blk.below HK0.out hb HK0.out.lt); have HC2 : Hid (Blk (w2.alloc (.cells #[.slice none 0 0, .slice none 0 0] 53)) w2.heap.size #[.slice none 0 0, .slice none 0 0] 53) := Lib.hid (Blk.new _ _ _ _ rfl); have HGC2 : Hid (g < w2.heap.size) := Lib.hid HD2.out.lt; clear hd hb hg)
    | (go_at_call 88; (with_reducible refine (HC3.out _ _ (HD2.out.below ((Below.refl _ _).alloc (Nat.le_refl _) _))).mono ?_); rintro e w3 ⟨rfl, hd, hgr⟩; have HD3 := Lib.hid hd; have HB3 := Lib.hid ((HB2.out.alloc HB2.out.size (.cells #[.slice none 0 0, .slice none 0 0] 53)).grown hgr (HB2.out.alloc HB2.out.size (.cells #[.slice none 0 0, .slice none 0 0] 53)).size (fun k e => by injection e with e; have := HG.out; omega)); have HK3 := Lib.hid (Blk.grown (HK2.out.alloc (.cells #[.slice none 0 0, .slice none 0 0] 53)) hgr (fun e => by injection e with e; have := HG.out; omega)); have HC3' := Lib.hid (Blk.grown HC2.out hgr (fun e => by injection e with e; have := HGC2.out; omega)); clear hd hgr)
    | (go_at_call 87; (with_reducible refine (HC4.out _ (HT.out.below HB3.out)).mono ?_); rintro e w6 ⟨v, rfl, ho, hb⟩; obtain ⟨al, cl, hv⟩ := Kd.R_slice ho; subst hv; have hb6 := below_then (bytes_below (Below.refl _ w3) (Nat.le_refl _) 5 s3) (bytes_below (Below.refl _ w3) (Nat.le_refl _) 5 s3).size hb; have HO6 := Lib.hid (own_le (B' := g + 1) (labs_own ho) (Nat.le_trans HD3.out.lt (bytes_below (Below.refl _ w3) (Nat.le_refl _) 5 s3).size)); have HC6 := Lib.hid (Blk.below HC3'.out hb6 HC3'.out.lt); have HK6 := Lib.hid (Blk.below HK3.out hb6 HK3.out.lt); have HD6 := Lib.hid (HD3.out.below hb6); have HB6 := Lib.hid (below_step HB3.out hb6); have f6 := HC6.out.frozen 0; have x6 := HC6.out.cell 0 _ rfl; clear ho hb hb6)
    | (go_at_call 86; (with_reducible refine (HC5.out _ _ (HD6.out.set HGC2.out)).mono ?_); rintro e w7 ⟨rfl, hd, hgr⟩; have HD7 := Lib.hid hd; have HC7 : Hid (Blk w7 w2.heap.size #[.slice al ls.length cl, .slice none 0 0] 53) := Lib.hid (Blk.grown (show Blk (w6.setCell ⟨w2.heap.size, 0, none⟩ (.slice al ls.length cl)) w2.heap.size #[.slice al ls.length cl, .slice none 0 0] 53 from by have := HC6.out.set 0 (.slice al ls.length cl); simpa using this) hgr (fun e => by injection e with e; have := HGC2.out; omega)); have HK7 := Lib.hid (Blk.grown (HK6.out.far ⟨w2.heap.size, 0, none⟩ (.slice al ls.length cl) (by show w.heap.size ≠ w2.heap.size; have := HG.out; have := HGC2.out; omega)) hgr (fun e => by injection e with e; have := HG.out; omega)); have HO7 := Lib.hid (own_kept (ownsRow_setCell_other (a := ⟨w2.heap.size, 0, none⟩) HO6.out (own_ne_blk HO6.out HC6.out (by decide)) (.slice al ls.length cl)) hgr (.inl (fun e => by have := own_ge HO6.out e; omega))); have HB7 := Lib.hid ((HB6.out.setCell (p := ⟨w2.heap.size, 0, none⟩) (by show w.heap.size ≤ w2.heap.size; exact HB2.out.size) (.slice al ls.length cl)).grown hgr (HB6.out.setCell (p := ⟨w2.heap.size, 0, none⟩) (by show w.heap.size ≤ w2.heap.size; exact HB2.out.size) (.slice al ls.length cl)).size (fun k e => by injection e with e; have := HG.out; omega)); have g0 := HK7.out.frozen 0; have g1 := HK7.out.frozen 1; have y0 := HK7.out.cell 0 _ rfl; have y1 := HK7.out.cell 1 _ rfl; clear hd hgr f6 x6))
    have q : Blk ((w7.setCell ⟨w.heap.size, 0, none⟩ (.slice none 0 0)).setCell ⟨w.heap.size, 1, none⟩ (.slice none 0 0)) w.heap.size #[.slice none 0 0, .slice none 0 0] 53 := by
      have := (HK7.out.set 0 (.slice none 0 0)).set 1 (.slice none 0 0)
      simpa using this
    refine bodyPost_ret (results_ct (P := Tryd.prog) rfl _ _ w.heap.size 53 #[.slice none 0 0, .slice none 0 0] (0, 0) _ rfl q.out Tryd.underlying53 rfl (by kernel_rfl)) rfl ?_
    rw [HF.out]
    exact ⟨none, 0, none, 0, rfl, Nat.le_refl _, Nat.le_refl _, Kd.C_nil _ _, cells71 (Kd.C_nil _ _), (HB7.out.setCell (p := ⟨w.heap.size, 0, none⟩) (Nat.le_refl _) _).setCell (p := ⟨w.heap.size, 1, none⟩) (Nat.le_refl _) _⟩
  have d1 : decide (1000 < n) = false := decide_eq_false hbig
  rw [if_neg hbig] at HGC
  go_enter Tryd.func55, Tryd.ntmps55
  go_wp2_with (first
    | (go_at_call 85; (with_reducible refine (HNW.out).mono ?_); rintro e w2 ⟨g, rfl, hg, hd, hb⟩; have HD2 := Lib.hid hd; have HG : Hid (w.heap.size < g) := Lib.hid (by have h1 : (w.alloc (.cells #[.slice none 0 0, .slice none 0 0] 53)).heap.size = w.heap.size + 1 := (by simp); omega); have HB2 := Lib.hid (below_step HB0.out hb); have HK2 := Lib.hid (Blk.below HK0.out hb HK0.out.lt); have HC2 : Hid (Blk (w2.alloc (.cells #[.slice none 0 0, .slice none 0 0] 53)) w2.heap.size #[.slice none 0 0, .slice none 0 0] 53) := Lib.hid (Blk.new _ _ _ _ rfl); have HGC2 : Hid (g < w2.heap.size) := Lib.hid HD2.out.lt; clear hd hb hg)
    | (go_at_call 88; (with_reducible refine (HC3.out _ _ (HD2.out.below ((Below.refl _ _).alloc (Nat.le_refl _) _))).mono ?_); rintro e w3 ⟨rfl, hd, hgr⟩; have HD3 := Lib.hid hd; have HB3 := Lib.hid ((HB2.out.alloc HB2.out.size (.cells #[.slice none 0 0, .slice none 0 0] 53)).grown hgr (HB2.out.alloc HB2.out.size (.cells #[.slice none 0 0, .slice none 0 0] 53)).size (fun k e => by injection e with e; have := HG.out; omega)); have HK3 := Lib.hid (Blk.grown (HK2.out.alloc (.cells #[.slice none 0 0, .slice none 0 0] 53)) hgr (fun e => by injection e with e; have := HG.out; omega)); have HC3' := Lib.hid (Blk.grown HC2.out hgr (fun e => by injection e with e; have := HGC2.out; omega)); clear hd hgr)
    | (go_at_call 87; (with_reducible refine (HC4.out _ (HT.out.below HB3.out)).mono ?_); rintro e w6 ⟨v, rfl, ho, hb⟩; obtain ⟨al, cl, hv⟩ := Kd.R_slice ho; subst hv; have hb6 := below_then (bytes_below (Below.refl _ w3) (Nat.le_refl _) 5 s3) (bytes_below (Below.refl _ w3) (Nat.le_refl _) 5 s3).size hb; have HO6 := Lib.hid (own_le (B' := g + 1) (labs_own ho) (Nat.le_trans HD3.out.lt (bytes_below (Below.refl _ w3) (Nat.le_refl _) 5 s3).size)); have HC6 := Lib.hid (Blk.below HC3'.out hb6 HC3'.out.lt); have HK6 := Lib.hid (Blk.below HK3.out hb6 HK3.out.lt); have HD6 := Lib.hid (HD3.out.below hb6); have HB6 := Lib.hid (below_step HB3.out hb6); have f6 := HC6.out.frozen 0; have x6 := HC6.out.cell 0 _ rfl; clear ho hb hb6)
    | (go_at_call 86; (with_reducible refine (HC5.out _ _ (HD6.out.set HGC2.out)).mono ?_); rintro e w7 ⟨rfl, hd, hgr⟩; have HD7 := Lib.hid hd; have HC7 : Hid (Blk w7 w2.heap.size #[.slice al ls.length cl, .slice none 0 0] 53) := Lib.hid (Blk.grown (show Blk (w6.setCell ⟨w2.heap.size, 0, none⟩ (.slice al ls.length cl)) w2.heap.size #[.slice al ls.length cl, .slice none 0 0] 53 from by have := HC6.out.set 0 (.slice al ls.length cl); simpa using this) hgr (fun e => by injection e with e; have := HGC2.out; omega)); have HK7 := Lib.hid (Blk.grown (HK6.out.far ⟨w2.heap.size, 0, none⟩ (.slice al ls.length cl) (by show w.heap.size ≠ w2.heap.size; have := HG.out; have := HGC2.out; omega)) hgr (fun e => by injection e with e; have := HG.out; omega)); have HO7 := Lib.hid (own_kept (ownsRow_setCell_other (a := ⟨w2.heap.size, 0, none⟩) HO6.out (own_ne_blk HO6.out HC6.out (by decide)) (.slice al ls.length cl)) hgr (.inl (fun e => by have := own_ge HO6.out e; omega))); have HB7 := Lib.hid ((HB6.out.setCell (p := ⟨w2.heap.size, 0, none⟩) (by show w.heap.size ≤ w2.heap.size; exact HB2.out.size) (.slice al ls.length cl)).grown hgr (HB6.out.setCell (p := ⟨w2.heap.size, 0, none⟩) (by show w.heap.size ≤ w2.heap.size; exact HB2.out.size) (.slice al ls.length cl)).size (fun k e => by injection e with e; have := HG.out; omega)); skip; clear hd hgr f6 x6))
  obtain ⟨m, rfl⟩ : ∃ m : Nat, n = (m : Int) := ⟨n.toNat, by omega⟩
  rw [Int.toNat_natCast] at HGC
  have hm1 : m ≤ 1000 := by omega
  obtain ⟨C, hCC⟩ : ∃ C, C = w2.heap.size := ⟨_, rfl⟩
  obtain ⟨R, hRR⟩ : ∃ R, R = w7.heap.size := ⟨_, rfl⟩
  rw [← hCC] at HC7 HGC2 ⊢
  have hCR : C < R := by rw [hRR]; exact HC7.out.lt
  have HG0 : Hid (GS w g C R al cl ls (.slice none 0 0) [] z71 b5 e5 (w7.alloc (.cells (rowC z71) 71))) := Lib.hid
    ⟨HK7.out.alloc _, HD7.out.below ((Below.refl _ _).alloc (Nat.le_refl _) _), HC7.out.alloc _, Blk.new _ _ _ _ hRR, own_below HO7.out ((Below.refl _ _).alloc (Nat.le_refl _) _), World.ownsRow_nil _ _ _ _, HB7.out.alloc HB7.out.size _, HG.out, HGC2.out, hCR⟩
  rw [← hRR]
  have HORD := Lib.hid (And.intro HG.out (And.intro HGC2.out hCR))
  clear hCC hRR hCR HK0 HB0 HNW HC3 HC4 HC5 KB3 HD2 HG HB2 HK2 HC2 HGC2 HD3 HB3 HK3 HC3' HO6 HC6 HK6 HD6 HB6 HD7 HC7 HK7 HO7 d1 hbig hs3
  go_loopw [25] (fun v25 wr => ∃ k : Nat, v25 = .int .i64 (k : Int) ∧ k ≤ m ∧ Hid (GRel w g C R al cl ls b5 e5 m k wr)) (fun v25 _ => m - (intOf v25).toNat)
  case atStart => exact ⟨0, rfl, Nat.zero_le _, [], z71, b5, e5, .slice none 0 0, HG0.out, by simp [Option.map_id'], rfl⟩
  case round =>
    clear HG0
    obtain ⟨k, rfl, hk, HI⟩ := hrel
    obtain ⟨l, p, b, er, v, hG, hrows, hlen⟩ := HI.out
    have hll : l.length ≤ 1000 := by omega
    have HLEN := Lib.hid hlen
    clear hlen
    by_cases hlt : k < m
    · have hlti : (k : Int) < (m : Int) := by omega
      obtain ⟨A2, c2, rfl, hc2⟩ := own_slice hG.rows
      have HGS := Lib.hid hG
      obtain ⟨q, hq⟩ : ∃ q, m - k = q + 1 := ⟨m - k - 1, by omega⟩
      have hq1 : m - (k + 1) = q := by omega
      have HX : Hid (rowG (k == 0) p b er = (⟨if (k == 0) = true then (numS (numS b er).2.1 (numS b er).2.2).1 else wrap64 (p.f0 + dzig (numS (numS b er).2.1 (numS b er).2.2).1), wrap64 (p.f1 + (numS b er).1), (textS (numS (numS b er).2.1 (numS b er).2.2).2.1 (numS (numS b er).2.1 (numS b er).2.2).2.2).1⟩, (textS (numS (numS b er).2.1 (numS b er).2.2).2.1 (numS (numS b er).2.1 (numS b er).2.2).2.2).2.1, (textS (numS (numS b er).2.1 (numS b er).2.2).2.1 (numS (numS b er).2.1 (numS b er).2.2).2.2).2.2)) := Lib.hid rfl
      have HN1 : Hid (∀ W, DecAt W g b er → Calls Tryd.prog 86 #[.pointer (some ⟨g, 0, none⟩)] W fun e w' => e = .returned (.int .i64 (numS b er).1) ∧ DecAt w' g (numS b er).2.1 (numS b er).2.2 ∧ W.grownBy w' (some g)) := Lib.hid (fun W h => dnum_any g b er W h)
      have HN2 : Hid (∀ W, DecAt W g (numS b er).2.1 (numS b er).2.2 → Calls Tryd.prog 86 #[.pointer (some ⟨g, 0, none⟩)] W fun e w' => e = .returned (.int .i64 (numS (numS b er).2.1 (numS b er).2.2).1) ∧ DecAt w' g (numS (numS b er).2.1 (numS b er).2.2).2.1 (numS (numS b er).2.1 (numS b er).2.2).2.2 ∧ W.grownBy w' (some g)) := Lib.hid (fun W h => dnum_any g _ _ W h)
      have HN3 : Hid (∀ W, DecAt W g (numS b er).2.1 (numS b er).2.2 → Calls Tryd.prog 115 #[.pointer (some ⟨g, 0, none⟩)] W fun e w' => e = .returned (.int .i64 (dzig (numS (numS b er).2.1 (numS b er).2.2).1)) ∧ DecAt w' g (numS (numS b er).2.1 (numS b er).2.2).2.1 (numS (numS b er).2.1 (numS b er).2.2).2.2 ∧ W.grownBy w' (some g)) := Lib.hid (fun W h => dsig_any g _ _ W h)
      rw [hq, rowsG] at hrows
      generalize rowG (k == 0) p b er = X at *
      generalize numS b er = a at *
      obtain ⟨n1, b1, e1⟩ := a
      dsimp only at HX HN1 HN2 HN3
      generalize numS b1 e1 = a at *
      obtain ⟨n2, b2, e2⟩ := a
      dsimp only at HX HN2 HN3
      have HN4 : Hid (∀ W, DecAt W g b2 e2 → Calls Tryd.prog 88 #[.pointer (some ⟨g, 0, none⟩)] W fun e w' => e = .returned (.string (textS b2 e2).1) ∧ DecAt w' g (textS b2 e2).2.1 (textS b2 e2).2.2 ∧ W.grownBy w' (some g)) := Lib.hid (fun W h => dtext_any g b2 e2 W h)
      generalize textS b2 e2 = a at *
      obtain ⟨tx, b3', e3'⟩ := a
      dsimp only at HX HN4
      have HN5 := Lib.hid (fun W (h : DecAt W g b3' e3') => err_any g b3' e3' W h)
      have x1 := hG.row.cell 1 _ rfl
      have HQ1 := Lib.hid hq1
      clear hG HI hq hq1
      obtain ⟨i0, hi0, hz0, hz1, hz2⟩ := info_parts info71
      rcases Nat.eq_zero_or_pos k with hk0 | hk0
      · subst hk0
        have hx2 : Hid (X = (⟨n2, wrap64 (p.f1 + n1), tx⟩, b3', e3')) := Lib.hid HX.out
        rw [hx2.out] at hrows
        dsimp only at hrows
        clear HX hx2 HN3
        by_cases herr : e3' = 0
        · subst herr
          rw [if_pos rfl] at hrows
          have HROWS := Lib.hid hrows
          clear hrows
          go_wp2_with fail
          go_region_with (go_at_call 86; (with_reducible refine (HN1.out _ (HGS.out.below (Below.refl _ _).drew).dec).mono ?_); rintro e w2 ⟨rfl, hd, hgr⟩; have HG1 := Lib.hid (GS.step (HGS.out.below (Below.refl _ _).drew) hd hgr); have y1 := HG1.out.row.cell 1 _ rfl; have f1 := HG1.out.row.frozen 1; have HG2 : Hid (GS w g C R al cl ls (.slice A2 l.length c2) l ⟨p.f0, wrap64 (p.f1 + n1), p.f2⟩ b1 e1 (w2.setCell ⟨R, 1, none⟩ (.int .i64 (wrap64 (p.f1 + n1))))) := Lib.hid (HG1.out.set 1 (.int .i64 (wrap64 (p.f1 + n1))) rfl); have y0 := HG2.out.row.cell 0 _ rfl; clear hd hgr)
          all_goals
            go_wp2_with (first
              | (go_at_call 86; (with_reducible refine (HN2.out _ HG2.out.dec).mono ?_); rintro e w3 ⟨rfl, hd, hgr⟩; have HG3 := Lib.hid (GS.step HG2.out hd hgr); have y3 := HG3.out.row.cell 0 _ rfl; have f3 := HG3.out.row.frozen 0; have HG4 : Hid (GS w g C R al cl ls (.slice A2 l.length c2) l ⟨n2, wrap64 (p.f1 + n1), p.f2⟩ b2 e2 (w3.setCell ⟨R, 0, none⟩ (.int .i64 n2))) := Lib.hid (HG3.out.set 0 (.int .i64 n2) rfl); clear hd hgr)
              | (go_at_call 88; (with_reducible refine (HN4.out _ HG4.out.dec).mono ?_); rintro e w5 ⟨rfl, hd, hgr⟩; have HG5 := Lib.hid (GS.step HG4.out hd hgr); have y5 := HG5.out.row.cell 2 _ rfl; have f5 := HG5.out.row.frozen 2; have HG6 : Hid (GS w g C R al cl ls (.slice A2 l.length c2) l ⟨n2, wrap64 (p.f1 + n1), tx⟩ b3' 0 (w5.setCell ⟨R, 2, none⟩ (.string tx))) := Lib.hid (HG5.out.set 2 (.string tx) rfl); have r0 := HG6.out.row.cell 0 _ rfl; have r1 := HG6.out.row.cell 1 _ rfl; have r2 := HG6.out.row.cell 2 _ rfl; have s1 := HG6.out.ch.cell 1 _ rfl; skip; clear hd hgr)
              | (go_at_call 116; (with_reducible refine (HN5.out _ HG6.out.dec).mono ?_); rintro e w6 ⟨rfl, rfl⟩)
              | ((with_reducible refine gate_builtin (b := .append) (xs := #[.tmp 52, .tmp 54]) rfl ?_); at_builtin; refine wpList_append_own _ rfl _ _ 51 rfl (R + 1) 71 i0 _ 3 32 Tryd.underlying51 hi0 hz0 hz1 hz2 rfl (by decide) _ l.length (rcells l) rfl (own_below HG6.out.rows ((Below.refl _ _).alloc (Nat.le_refl _) (.cells (rowC ⟨n2, wrap64 (p.f1 + n1), tx⟩) 71))) ⟨w5.heap.size, 0, none⟩ 1 1 [.int .i64 n2, .int .i64 (wrap64 (p.f1 + n1)), .string tx] rfl rfl (row_news _ w5.heap.size (by simp [World.setCell]) ⟨n2, wrap64 (p.f1 + n1), tx⟩) (row_one ⟨n2, wrap64 (p.f1 + n1), tx⟩) (by unfold maxLen; omega) (by omega) (by have := HG6.out.row.lt; simp only [World.size_alloc]; omega) ?_; intro v' w8 hown hgrow _; have HOW := Lib.hid hown; have HGR : Hid (((w5.setCell ⟨R, 2, none⟩ (.string tx)).alloc (.cells (rowC ⟨n2, wrap64 (p.f1 + n1), tx⟩) 71)).grownBy w8 (Value.slice A2 l.length c2).ownBlock) := hgrow; have hch := Blk.grown (HG6.out.ch.alloc (.cells (rowC ⟨n2, wrap64 (p.f1 + n1), tx⟩) 71)) HGR.out (fun e => by have h1 := own_ge HG6.out.rows e; have h2 := HORD.out.2.2; omega); obtain ⟨A3, q3, rfl, hq3⟩ := own_slice hown; have t1 := hch.cell 1 _ rfl; have tf := hch.frozen 1; clear hown hgrow hch))
          all_goals
            go_roundw
            case rel =>
              refine ⟨0 + 1, by go_num, by omega, l ++ [⟨n2, wrap64 (p.f1 + n1), tx⟩], ⟨n2, wrap64 (p.f1 + n1), tx⟩, b3', 0, .slice A3 (l.length + 1) q3, ?_, ?_, by rw [List.length_append, HLEN.out]; rfl⟩
              · exact HG6.out.push ((Below.refl _ _).alloc (Nat.le_refl _) (.cells (rowC ⟨n2, wrap64 (p.f1 + n1), tx⟩) 71)) HGR.out HOW.out
              · rw [HROWS.out, HQ1.out]
                exact rows_next _ _ _
            case measure => simp [intOf]; omega
        · rw [if_neg herr] at hrows
          have hne : (e3' != 0) = true := by simp [herr]
          have HF : Hid (GC = ([], [], 21)) := Lib.hid (by rw [HGC.out, hrows]; rfl)
          have HN6 : Hid (∀ W, DecAt W g b3' e3' → Calls Tryd.prog 89 #[.pointer (some ⟨g, 0, none⟩)] W fun e w' => e = .returned (.int .i64 e3') ∧ W = w') := Lib.hid (fun W h => by have := done_any g b3' e3' W h; rwa [show doneG b3' e3' = e3' by unfold doneG; rw [if_pos herr]] at this)
          clear hrows HGC herr
          go_wp2_with fail
          go_region_with (go_at_call 86; (with_reducible refine (HN1.out _ (HGS.out.below (Below.refl _ _).drew).dec).mono ?_); rintro e w2 ⟨rfl, hd, hgr⟩; have HG1 := Lib.hid (GS.step (HGS.out.below (Below.refl _ _).drew) hd hgr); have y1 := HG1.out.row.cell 1 _ rfl; have f1 := HG1.out.row.frozen 1; have HG2 : Hid (GS w g C R al cl ls (.slice A2 l.length c2) l ⟨p.f0, wrap64 (p.f1 + n1), p.f2⟩ b1 e1 (w2.setCell ⟨R, 1, none⟩ (.int .i64 (wrap64 (p.f1 + n1))))) := Lib.hid (HG1.out.set 1 (.int .i64 (wrap64 (p.f1 + n1))) rfl); have y0 := HG2.out.row.cell 0 _ rfl; clear hd hgr)
          all_goals
            go_wp2_with (first
              | (go_at_call 86; (with_reducible refine (HN2.out _ HG2.out.dec).mono ?_); rintro e w3 ⟨rfl, hd, hgr⟩; have HG3 := Lib.hid (GS.step HG2.out hd hgr); have y3 := HG3.out.row.cell 0 _ rfl; have f3 := HG3.out.row.frozen 0; have HG4 : Hid (GS w g C R al cl ls (.slice A2 l.length c2) l ⟨n2, wrap64 (p.f1 + n1), p.f2⟩ b2 e2 (w3.setCell ⟨R, 0, none⟩ (.int .i64 n2))) := Lib.hid (HG3.out.set 0 (.int .i64 n2) rfl); clear hd hgr)
              | (go_at_call 88; (with_reducible refine (HN4.out _ HG4.out.dec).mono ?_); rintro e w5 ⟨rfl, hd, hgr⟩; have HG5 := Lib.hid (GS.step HG4.out hd hgr); have y5 := HG5.out.row.cell 2 _ rfl; have f5 := HG5.out.row.frozen 2; have HG6 : Hid (GS w g C R al cl ls (.slice A2 l.length c2) l ⟨n2, wrap64 (p.f1 + n1), tx⟩ b3' e3' (w5.setCell ⟨R, 2, none⟩ (.string tx))) := Lib.hid (HG5.out.set 2 (.string tx) rfl); have r0 := HG6.out.row.cell 0 _ rfl; have r1 := HG6.out.row.cell 1 _ rfl; have r2 := HG6.out.row.cell 2 _ rfl; have s1 := HG6.out.ch.cell 1 _ rfl; have g0 := HG6.out.res.frozen 0; have g1 := HG6.out.res.frozen 1; have u0 := HG6.out.res.cell 0 _ rfl; have u1 := HG6.out.res.cell 1 _ rfl; clear hd hgr)
              | (go_at_call 116; (with_reducible refine (HN5.out _ HG6.out.dec).mono ?_); rintro e w6 ⟨rfl, rfl⟩)
              | (go_at_call 89; (with_reducible refine (HN6.out _ HG6.out.dec).mono ?_); rintro e w7 ⟨rfl, rfl⟩))
          all_goals
            have q : Blk (((w5.setCell ⟨R, 2, none⟩ (.string tx)).setCell ⟨w.heap.size, 0, none⟩ (.slice none 0 0)).setCell ⟨w.heap.size, 1, none⟩ (.slice none 0 0)) w.heap.size #[.slice none 0 0, .slice none 0 0] 53 := by
              have := (HG6.out.res.set 0 (.slice none 0 0)).set 1 (.slice none 0 0)
              simpa using this
            refine bodyPost_ret (results_ct (P := Tryd.prog) rfl _ _ w.heap.size 53 #[.slice none 0 0, .slice none 0 0] (0, 0) _ rfl q.out Tryd.underlying53 rfl (by kernel_rfl)) rfl ?_
            rw [HF.out]
            exact ⟨none, 0, none, 0, rfl, Nat.le_refl _, Nat.le_refl _, Kd.C_nil _ _, cells71 (Kd.C_nil _ _), (HG6.out.low.setCell (p := ⟨w.heap.size, 0, none⟩) (Nat.le_refl _) _).setCell (p := ⟨w.heap.size, 1, none⟩) (Nat.le_refl _) _⟩
      · have hx2 : Hid (X = (⟨wrap64 (p.f0 + dzig n2), wrap64 (p.f1 + n1), tx⟩, b3', e3')) := Lib.hid (by rw [HX.out, if_neg (by simp; omega)])
        rw [hx2.out] at hrows
        dsimp only at hrows
        have hk1 : decide ((k : Int) = 0) = false := decide_eq_false (by omega)
        have hk2 : ((k : Int) == 0) = false := by simp; omega
        have HK0 := Lib.hid hk0
        clear hk0
        clear HX hx2 HN2
        by_cases herr : e3' = 0
        · subst herr
          rw [if_pos rfl] at hrows
          have HROWS := Lib.hid hrows
          clear hrows
          go_wp2_with fail
          go_region_with (go_at_call 86; (with_reducible refine (HN1.out _ (HGS.out.below (Below.refl _ _).drew).dec).mono ?_); rintro e w2 ⟨rfl, hd, hgr⟩; have HG1 := Lib.hid (GS.step (HGS.out.below (Below.refl _ _).drew) hd hgr); have y1 := HG1.out.row.cell 1 _ rfl; have f1 := HG1.out.row.frozen 1; have HG2 : Hid (GS w g C R al cl ls (.slice A2 l.length c2) l ⟨p.f0, wrap64 (p.f1 + n1), p.f2⟩ b1 e1 (w2.setCell ⟨R, 1, none⟩ (.int .i64 (wrap64 (p.f1 + n1))))) := Lib.hid (HG1.out.set 1 (.int .i64 (wrap64 (p.f1 + n1))) rfl); have y0 := HG2.out.row.cell 0 _ rfl; clear hd hgr)
          all_goals go_wp2_with fail
          all_goals go_region_with (go_at_call 115; (with_reducible refine (HN3.out _ (HG2.out.below (Below.refl _ _).drew).dec).mono ?_); rintro e w3 ⟨rfl, hd, hgr⟩; have HG3 := Lib.hid (GS.step (HG2.out.below (Below.refl _ _).drew) hd hgr); have y3 := HG3.out.row.cell 0 _ rfl; have f3 := HG3.out.row.frozen 0; have HG4 : Hid (GS w g C R al cl ls (.slice A2 l.length c2) l ⟨(wrap64 (p.f0 + dzig n2)), wrap64 (p.f1 + n1), p.f2⟩ b2 e2 (w3.setCell ⟨R, 0, none⟩ (.int .i64 (wrap64 (p.f0 + dzig n2))))) := Lib.hid (HG3.out.set 0 (.int .i64 (wrap64 (p.f0 + dzig n2))) rfl); clear hd hgr)
          all_goals
            go_wp2_with (first
              | (go_at_call 88; (with_reducible refine (HN4.out _ HG4.out.dec).mono ?_); rintro e w5 ⟨rfl, hd, hgr⟩; have HG5 := Lib.hid (GS.step HG4.out hd hgr); have y5 := HG5.out.row.cell 2 _ rfl; have f5 := HG5.out.row.frozen 2; have HG6 : Hid (GS w g C R al cl ls (.slice A2 l.length c2) l ⟨wrap64 (p.f0 + dzig n2), wrap64 (p.f1 + n1), tx⟩ b3' 0 (w5.setCell ⟨R, 2, none⟩ (.string tx))) := Lib.hid (HG5.out.set 2 (.string tx) rfl); have r0 := HG6.out.row.cell 0 _ rfl; have r1 := HG6.out.row.cell 1 _ rfl; have r2 := HG6.out.row.cell 2 _ rfl; have s1 := HG6.out.ch.cell 1 _ rfl; skip; clear hd hgr)
              | (go_at_call 116; (with_reducible refine (HN5.out _ HG6.out.dec).mono ?_); rintro e w6 ⟨rfl, rfl⟩)
              | ((with_reducible refine gate_builtin (b := .append) (xs := #[.tmp 52, .tmp 54]) rfl ?_); at_builtin; refine wpList_append_own _ rfl _ _ 51 rfl (R + 1) 71 i0 _ 3 32 Tryd.underlying51 hi0 hz0 hz1 hz2 rfl (by decide) _ l.length (rcells l) rfl (own_below HG6.out.rows ((Below.refl _ _).alloc (Nat.le_refl _) (.cells (rowC ⟨wrap64 (p.f0 + dzig n2), wrap64 (p.f1 + n1), tx⟩) 71))) ⟨w5.heap.size, 0, none⟩ 1 1 [.int .i64 (wrap64 (p.f0 + dzig n2)), .int .i64 (wrap64 (p.f1 + n1)), .string tx] rfl rfl (row_news _ w5.heap.size (by simp [World.setCell]) ⟨wrap64 (p.f0 + dzig n2), wrap64 (p.f1 + n1), tx⟩) (row_one ⟨wrap64 (p.f0 + dzig n2), wrap64 (p.f1 + n1), tx⟩) (by unfold maxLen; omega) (by omega) (by have := HG6.out.row.lt; simp only [World.size_alloc]; omega) ?_; intro v' w8 hown hgrow _; have HOW := Lib.hid hown; have HGR : Hid (((w5.setCell ⟨R, 2, none⟩ (.string tx)).alloc (.cells (rowC ⟨wrap64 (p.f0 + dzig n2), wrap64 (p.f1 + n1), tx⟩) 71)).grownBy w8 (Value.slice A2 l.length c2).ownBlock) := hgrow; have hch := Blk.grown (HG6.out.ch.alloc (.cells (rowC ⟨wrap64 (p.f0 + dzig n2), wrap64 (p.f1 + n1), tx⟩) 71)) HGR.out (fun e => by have h1 := own_ge HG6.out.rows e; have h2 := HORD.out.2.2; omega); obtain ⟨A3, q3, rfl, hq3⟩ := own_slice hown; have t1 := hch.cell 1 _ rfl; have tf := hch.frozen 1; clear hown hgrow hch))
          all_goals
            go_roundw
            case rel =>
              refine ⟨k + 1, by go_num, by omega, l ++ [⟨wrap64 (p.f0 + dzig n2), wrap64 (p.f1 + n1), tx⟩], ⟨wrap64 (p.f0 + dzig n2), wrap64 (p.f1 + n1), tx⟩, b3', 0, .slice A3 (l.length + 1) q3, ?_, ?_, by rw [List.length_append, HLEN.out]; rfl⟩
              · exact HG6.out.push ((Below.refl _ _).alloc (Nat.le_refl _) (.cells (rowC ⟨wrap64 (p.f0 + dzig n2), wrap64 (p.f1 + n1), tx⟩) 71)) HGR.out HOW.out
              · rw [HROWS.out, HQ1.out]
                exact rows_next _ _ _
            case measure => simp [intOf]; omega
        · rw [if_neg herr] at hrows
          have hne : (e3' != 0) = true := by simp [herr]
          have HF : Hid (GC = ([], [], 21)) := Lib.hid (by rw [HGC.out, hrows]; rfl)
          have HN6 : Hid (∀ W, DecAt W g b3' e3' → Calls Tryd.prog 89 #[.pointer (some ⟨g, 0, none⟩)] W fun e w' => e = .returned (.int .i64 e3') ∧ W = w') := Lib.hid (fun W h => by have := done_any g b3' e3' W h; rwa [show doneG b3' e3' = e3' by unfold doneG; rw [if_pos herr]] at this)
          clear hrows HGC herr
          go_wp2_with fail
          go_region_with (go_at_call 86; (with_reducible refine (HN1.out _ (HGS.out.below (Below.refl _ _).drew).dec).mono ?_); rintro e w2 ⟨rfl, hd, hgr⟩; have HG1 := Lib.hid (GS.step (HGS.out.below (Below.refl _ _).drew) hd hgr); have y1 := HG1.out.row.cell 1 _ rfl; have f1 := HG1.out.row.frozen 1; have HG2 : Hid (GS w g C R al cl ls (.slice A2 l.length c2) l ⟨p.f0, wrap64 (p.f1 + n1), p.f2⟩ b1 e1 (w2.setCell ⟨R, 1, none⟩ (.int .i64 (wrap64 (p.f1 + n1))))) := Lib.hid (HG1.out.set 1 (.int .i64 (wrap64 (p.f1 + n1))) rfl); have y0 := HG2.out.row.cell 0 _ rfl; clear hd hgr)
          all_goals go_wp2_with fail
          all_goals go_region_with (go_at_call 115; (with_reducible refine (HN3.out _ (HG2.out.below (Below.refl _ _).drew).dec).mono ?_); rintro e w3 ⟨rfl, hd, hgr⟩; have HG3 := Lib.hid (GS.step (HG2.out.below (Below.refl _ _).drew) hd hgr); have y3 := HG3.out.row.cell 0 _ rfl; have f3 := HG3.out.row.frozen 0; have HG4 : Hid (GS w g C R al cl ls (.slice A2 l.length c2) l ⟨(wrap64 (p.f0 + dzig n2)), wrap64 (p.f1 + n1), p.f2⟩ b2 e2 (w3.setCell ⟨R, 0, none⟩ (.int .i64 (wrap64 (p.f0 + dzig n2))))) := Lib.hid (HG3.out.set 0 (.int .i64 (wrap64 (p.f0 + dzig n2))) rfl); clear hd hgr)
          all_goals
            go_wp2_with (first
              | (go_at_call 88; (with_reducible refine (HN4.out _ HG4.out.dec).mono ?_); rintro e w5 ⟨rfl, hd, hgr⟩; have HG5 := Lib.hid (GS.step HG4.out hd hgr); have y5 := HG5.out.row.cell 2 _ rfl; have f5 := HG5.out.row.frozen 2; have HG6 : Hid (GS w g C R al cl ls (.slice A2 l.length c2) l ⟨wrap64 (p.f0 + dzig n2), wrap64 (p.f1 + n1), tx⟩ b3' e3' (w5.setCell ⟨R, 2, none⟩ (.string tx))) := Lib.hid (HG5.out.set 2 (.string tx) rfl); have r0 := HG6.out.row.cell 0 _ rfl; have r1 := HG6.out.row.cell 1 _ rfl; have r2 := HG6.out.row.cell 2 _ rfl; have s1 := HG6.out.ch.cell 1 _ rfl; have g0 := HG6.out.res.frozen 0; have g1 := HG6.out.res.frozen 1; have u0 := HG6.out.res.cell 0 _ rfl; have u1 := HG6.out.res.cell 1 _ rfl; clear hd hgr)
              | (go_at_call 116; (with_reducible refine (HN5.out _ HG6.out.dec).mono ?_); rintro e w6 ⟨rfl, rfl⟩)
              | (go_at_call 89; (with_reducible refine (HN6.out _ HG6.out.dec).mono ?_); rintro e w7 ⟨rfl, rfl⟩))
          all_goals
            have q : Blk (((w5.setCell ⟨R, 2, none⟩ (.string tx)).setCell ⟨w.heap.size, 0, none⟩ (.slice none 0 0)).setCell ⟨w.heap.size, 1, none⟩ (.slice none 0 0)) w.heap.size #[.slice none 0 0, .slice none 0 0] 53 := by
              have := (HG6.out.res.set 0 (.slice none 0 0)).set 1 (.slice none 0 0)
              simpa using this
            refine bodyPost_ret (results_ct (P := Tryd.prog) rfl _ _ w.heap.size 53 #[.slice none 0 0, .slice none 0 0] (0, 0) _ rfl q.out Tryd.underlying53 rfl (by kernel_rfl)) rfl ?_
            rw [HF.out]
            exact ⟨none, 0, none, 0, rfl, Nat.le_refl _, Nat.le_refl _, Kd.C_nil _ _, cells71 (Kd.C_nil _ _), (HG6.out.low.setCell (p := ⟨w.heap.size, 0, none⟩) (Nat.le_refl _) _).setCell (p := ⟨w.heap.size, 1, none⟩) (Nat.le_refl _) _⟩
    · obtain rfl : k = m := by omega
      rw [Nat.sub_self, rowsG] at hrows
      simp only [Option.map_some, List.append_nil] at hrows
      rw [hrows] at HGC
      dsimp only at HGC
      have hwf := rowsG_wf _ _ _ _ _ _ hrows
      dsimp only at hwf
      obtain ⟨A2, c2, rfl, hc2⟩ := own_slice hG.rows
      have HGS := Lib.hid hG
      have hkl : ¬ (k : Int) < (k : Int) := by omega
      have HDN := Lib.hid (done_any g b er wr hG.dec)
      have HRC := Lib.hid (cright_any al cl ls A2 c2 l wr (HT.out.below hG.low) (by omega) (by omega) (C_lab (by omega) (own_rowC hG.labs)) (own_rowC hG.rows) hwf)
      have x0 := hG.ch.cell 0 _ rfl
      have x1 := hG.ch.cell 1 _ rfl
      clear hrows hwf hG HI
      generalize doneG b er = dn at *
      by_cases hdn : dn = 0
      · subst hdn
        cases hrc : rightC ls l
        · rw [hrc] at HRC
          have HF : Hid (GC = ([], [], 21)) := Lib.hid (by rw [HGC.out, if_pos (.inr hrc)])
          clear hrc HGC
          go_wp2_with (first
            | (go_at_call 89; (with_reducible refine (HDN.out).mono ?_); rintro e w8 ⟨rfl, rfl⟩)
            | (go_at_call 57; (with_reducible refine (HRC.out).mono ?_); rintro e w9 ⟨rfl, hb⟩; have HR9 := Lib.hid (HGS.out.below hb); have g0 := HR9.out.res.frozen 0; have g1 := HR9.out.res.frozen 1; have y0 := HR9.out.res.cell 0 _ rfl; have y1 := HR9.out.res.cell 1 _ rfl; clear hb x0 x1))
          have q : Blk ((w9.setCell ⟨w.heap.size, 0, none⟩ (.slice none 0 0)).setCell ⟨w.heap.size, 1, none⟩ (.slice none 0 0)) w.heap.size #[.slice none 0 0, .slice none 0 0] 53 := by
            have := (HR9.out.res.set 0 (.slice none 0 0)).set 1 (.slice none 0 0)
            simpa using this
          refine bodyPost_ret (results_ct (P := Tryd.prog) rfl _ _ w.heap.size 53 #[.slice none 0 0, .slice none 0 0] (0, 0) _ rfl q.out Tryd.underlying53 rfl (by kernel_rfl)) rfl ?_
          rw [HF.out]
          exact ⟨none, 0, none, 0, rfl, Nat.le_refl _, Nat.le_refl _, Kd.C_nil _ _, cells71 (Kd.C_nil _ _), (HR9.out.low.setCell (p := ⟨w.heap.size, 0, none⟩) (Nat.le_refl _) _).setCell (p := ⟨w.heap.size, 1, none⟩) (Nat.le_refl _) _⟩
        · rw [hrc] at HRC
          have HF : Hid (GC = (ls, l, 0)) := Lib.hid (by rw [HGC.out, if_neg (by simp [hrc])])
          clear hrc HGC
          go_wp2_with (first
            | (go_at_call 89; (with_reducible refine (HDN.out).mono ?_); rintro e w8 ⟨rfl, rfl⟩)
            | (go_at_call 57; (with_reducible refine (HRC.out).mono ?_); rintro e w9 ⟨rfl, hb⟩; have HR9 := Lib.hid (HGS.out.below hb); have g0 := HR9.out.res.frozen 0; have g1 := HR9.out.res.frozen 1; have y0 := HR9.out.res.cell 0 _ rfl; have y1 := HR9.out.res.cell 1 _ rfl; have z0 := HR9.out.ch.cell 0 _ rfl; have z1 := HR9.out.ch.cell 1 _ rfl; clear hb x0 x1))
          have q : Blk ((w9.setCell ⟨w.heap.size, 0, none⟩ (.slice al ls.length cl)).setCell ⟨w.heap.size, 1, none⟩ (.slice A2 l.length c2)) w.heap.size #[.slice al ls.length cl, .slice A2 l.length c2] 53 := by
            have := (HR9.out.res.set 0 (.slice al ls.length cl)).set 1 (.slice A2 l.length c2)
            simpa using this
          refine bodyPost_ret (results_ct (P := Tryd.prog) rfl _ _ w.heap.size 53 #[.slice al ls.length cl, .slice A2 l.length c2] (0, 0) _ rfl q.out Tryd.underlying53 rfl (by kernel_rfl)) rfl ?_
          rw [HF.out]
          have o1 := HORD.out.1
          have o2 := HORD.out.2.1
          have o3 := HORD.out.2.2
          have hn1 : ∀ u, ((w9.setCell ⟨w.heap.size, 0, none⟩ (.slice al ls.length cl)).setCell ⟨w.heap.size, 1, none⟩ u).ownsRow (g + 1) 112 2 (.slice al ls.length cl) ls.length (lcells ls) := fun u =>
            ownsRow_setCell_other (ownsRow_setCell_other HR9.out.labs (fun e => by have := own_ge HR9.out.labs e; simp only at this; omega) _) (fun e => by have := own_ge HR9.out.labs e; simp only at this; omega) _
          have hn2 : ∀ u, ((w9.setCell ⟨w.heap.size, 0, none⟩ (.slice al ls.length cl)).setCell ⟨w.heap.size, 1, none⟩ u).ownsRow (R + 1) 71 3 (.slice A2 l.length c2) l.length (rcells l) := fun u =>
            ownsRow_setCell_other (ownsRow_setCell_other HR9.out.rows (fun e => by have := own_ge HR9.out.rows e; simp only at this; omega) _) (fun e => by have := own_ge HR9.out.rows e; simp only at this; omega) _
          exact ⟨al, cl, A2, c2, rfl, (RS.own_cap (hn1 (.slice A2 l.length c2))), hc2, C_lab (by show ls.length ≤ _; omega) (own_rowC (hn1 _)), own_rowC (hn2 _), (HR9.out.low.setCell (p := ⟨w.heap.size, 0, none⟩) (Nat.le_refl _) _).setCell (p := ⟨w.heap.size, 1, none⟩) (Nat.le_refl _) _⟩
      · have hne : (dn != 0) = true := by simp [hdn]
        have HF : Hid (GC = ([], [], 21)) := Lib.hid (by rw [HGC.out, if_pos (.inl hdn)])
        have g0 := HGS.out.res.frozen 0
        have g1 := HGS.out.res.frozen 1
        have y0 := HGS.out.res.cell 0 _ rfl
        have y1 := HGS.out.res.cell 1 _ rfl
        clear hdn HGC
        go_wp2_with (go_at_call 89; (with_reducible refine (HDN.out).mono ?_); rintro e w8 ⟨rfl, rfl⟩)
        have q : Blk ((wr.setCell ⟨w.heap.size, 0, none⟩ (.slice none 0 0)).setCell ⟨w.heap.size, 1, none⟩ (.slice none 0 0)) w.heap.size #[.slice none 0 0, .slice none 0 0] 53 := by
          have := (HGS.out.res.set 0 (.slice none 0 0)).set 1 (.slice none 0 0)
          simpa using this
        refine bodyPost_ret (results_ct (P := Tryd.prog) rfl _ _ w.heap.size 53 #[.slice none 0 0, .slice none 0 0] (0, 0) _ rfl q.out Tryd.underlying53 rfl (by kernel_rfl)) rfl ?_
        rw [HF.out]
        exact ⟨none, 0, none, 0, rfl, Nat.le_refl _, Nat.le_refl _, Kd.C_nil _ _, cells71 (Kd.C_nil _ _), (HGS.out.low.setCell (p := ⟨w.heap.size, 0, none⟩) (Nat.le_refl _) _).setCell (p := ⟨w.heap.size, 1, none⟩) (Nat.le_refl _) _⟩
end Go.Proofs.YtojocffjajcdmaaDoor.RF
