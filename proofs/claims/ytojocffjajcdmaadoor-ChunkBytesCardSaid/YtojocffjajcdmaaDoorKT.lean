/- Rows of raw cells, and what slices.Clone makes of them. -/
import Derived.Test.YtojocffjajcdmaaDoorKA
import Derived.Lib.SliceRun
import Derived.Deep.AppendLies
import Derived.Deep.RegionHeldLaw
import Derived.Laws.OwnMore
namespace Go.Proofs.YtojocffjajcdmaaDoor
open Go.RowKit Go.Proofs.YtojocffjajcdmaaDoorW.PrintWords Go.Proofs.YtojocffjajcdmaaDoorW.PrintLast Go.Proofs.YtojocffjajcdmaaDoorW.PrintMore PChunkAll
set_option linter.unusedVariables false
set_option linter.unusedSimpArgs false

/-- A row of cells at an address; what it is worth where it is not empty. -/
def RowC (w : World) (A : Option Addr) (xs : List Value) : Prop := 0 < xs.length → ∃ b o, A = some ⟨b, o, none⟩ ∧ ∀ j u, xs[j]? = some u → w.cell? ⟨b, o + j, none⟩ = some u
theorem RowC.below {w w' : World} {A : Option Addr} {xs : List Value} (h : RowC w A xs) (hb : Below w.heap.size w w') : RowC w' A xs := fun hp => by
  obtain ⟨b, o, e, hc⟩ := h hp
  exact ⟨b, o, e, fun j u hu => pw_cell_below hb (hc j u hu)⟩

theorem flat_len {α : Type} (f : α → List Value) (s : Nat) (hf : ∀ x, (f x).length = s) (xs : List α) : (xs.flatMap f).length = xs.length * s := by
  induction xs with
  | nil => simp
  | cons a l ih => rw [List.flatMap_cons, List.length_append, hf, ih, List.length_cons, Nat.add_mul]; omega
theorem flat_get {α : Type} (f : α → List Value) (s : Nat) (hf : ∀ x, (f x).length = s) (xs : List α) (i j : Nat) (hi : i < xs.length) (hj : j < s) : (xs.flatMap f)[i * s + j]? = (f xs[i])[j]? := by
  induction xs generalizing i with
  | nil => simp at hi
  | cons a l ih =>
    rw [List.flatMap_cons]
    cases i with
    | zero => rw [List.getElem?_append_left (by rw [hf]; omega)]; simp
    | succ i =>
      rw [List.getElem?_append_right (by rw [hf, Nat.add_mul]; omega), hf, show (i + 1) * s + j - s = i * s + j by rw [Nat.add_mul]; omega, ih i (by simpa using hi)]
      simp
theorem flat_one {α : Type} (f : α → List Value) (h1 : ∀ x, ∀ u ∈ f x, u.oneCell' = true) (xs : List α) : ∀ u ∈ xs.flatMap f, u.oneCell' = true := by
  intro u hu
  obtain ⟨x, _, hx⟩ := List.mem_flatMap.1 hu
  exact h1 x u hx

/-- Elements that say all their cells: read as a row of cells. -/
theorem cells_of_C {α : Type} {d : Kd α} {f : α → List Value} {w : World} {A : Option Addr} {xs : List α} (hf : ∀ x, (f x).length = d.sz) (hK : ∀ x cs, d.K w x cs → cs = f x) (h0 : 0 < d.sz) (h : Kd.C d w A xs.length xs) : RowC w A (xs.flatMap f) := fun hp => by
  rw [flat_len f d.sz hf] at hp
  have hn : 0 < xs.length := by
    rcases Nat.eq_zero_or_pos xs.length with e | e
    · rw [e] at hp; simp at hp
    · exact e
  obtain ⟨ad, e, hc⟩ := h.2.2 hn
  have hsp : ad = ⟨ad.block, ad.off, none⟩ := by
    obtain ⟨c, hl, hk, hcc⟩ := hc 0 _ (List.getElem?_eq_getElem hn)
    have h3 := hcc 0 _ (List.getElem?_eq_getElem (by omega))
    have h4 : ad.add (0 * d.sz + 0) = ad := by rw [Nat.zero_mul]; rfl
    rw [h4] at h3
    exact spot_none h3
  refine ⟨ad.block, ad.off, by rw [← hsp]; exact e, fun j u hu => ?_⟩
  have hjl : j < xs.length * d.sz := by
    have := (List.getElem?_eq_some_iff.1 hu).1
    rwa [flat_len f d.sz hf] at this
  have hq : j / d.sz < xs.length := (Nat.div_lt_iff_lt_mul h0).2 hjl
  have hr : j % d.sz < d.sz := Nat.mod_lt _ h0
  have hj : j = j / d.sz * d.sz + j % d.sz := by rw [Nat.mul_comm]; exact (Nat.div_add_mod j d.sz).symm
  obtain ⟨c, hl, hk, hcc⟩ := hc (j / d.sz) _ (List.getElem?_eq_getElem hq)
  rw [hK _ _ hk] at hcc
  rw [hj, flat_get f d.sz hf xs _ _ hq hr] at hu
  have h3 := hcc _ _ hu
  rw [← hj, hsp, addr_add] at h3
  exact h3
theorem C_of_cells {α : Type} {d : Kd α} {f : α → List Value} {w : World} {A : Option Addr} {xs : List α} (hf : ∀ x, (f x).length = d.sz) (hK : ∀ x, d.K w x (f x)) (h0 : 0 < d.sz) (hm : xs.length ≤ 9223372036854775807) (h : RowC w A (xs.flatMap f)) : Kd.C d w A xs.length xs := by
  refine ⟨rfl, hm, fun hn => ?_⟩
  obtain ⟨b, o, e, hc⟩ := h (by rw [flat_len f d.sz hf]; exact Nat.mul_pos hn h0)
  refine ⟨⟨b, o, none⟩, e, fun j p hj => ⟨f p, hf p, hK p, fun i u hu => ?_⟩⟩
  have hjl : j < xs.length := (List.getElem?_eq_some_iff.1 hj).1
  have hi : i < d.sz := by have := (List.getElem?_eq_some_iff.1 hu).1; rwa [hf] at this
  rw [addr_add]
  refine hc _ _ ?_
  rw [flat_get f d.sz hf xs j i hjl hi]
  rw [List.getElem?_eq_getElem hjl] at hj
  injection hj with hj
  rw [hj]; exact hu
theorem own_rowC {w : World} {base n c : Nat} {A : Option Addr} {e : TypeId} {size : Nat} {xs : List Value} (h : w.ownsRow base e size (.slice A n c) n xs) : RowC w A xs := fun hp => by
  have h' := h
  obtain ⟨hl, hv⟩ := h
  rcases hv with ⟨hv, hn⟩ | ⟨g, cap, cur, hv, _⟩
  · subst hn; rw [hl] at hp; simp at hp
  · have hA : A = some ⟨g, 0, none⟩ := by injection hv
    subst hA
    refine ⟨g, 0, rfl, fun j u hu => ?_⟩
    have := h'.cells (g := g) rfl j u hu
    rwa [addr_add] at this

def lcells (ls : List S112) : List Value := ls.flatMap fun l => [.string l.f0, .string l.f1]
theorem lab_C {w : World} {A : Option Addr} {ls : List S112} (h : Kd.C k112 w A ls.length ls) : RowC w A (lcells ls) :=
  cells_of_C (d := k112) (f := fun l => [.string l.f0, .string l.f1]) (fun _ => rfl) (fun x cs hx => k112_open hx) (by decide) h
theorem C_lab {w : World} {A : Option Addr} {ls : List S112} (hm : ls.length ≤ 9223372036854775807) (h : RowC w A (lcells ls)) : Kd.C k112 w A ls.length ls :=
  C_of_cells (d := k112) (f := fun l => [.string l.f0, .string l.f1]) (fun _ => rfl) (fun x => k112_mk w x) (by decide) hm h

def CloneP (w : World) (t sz n : Nat) (xs : List Value) (e : Ending) (w' : World) : Prop :=
  ∃ v', e = .returned v' ∧ w'.ownsRow w.heap.size t sz v' n xs ∧ Below w.heap.size w w'

theorem nil31 : ∀ (w : World) (a : Option Addr) (n c n' c' : Nat), (binOp .eql 31 (.slice a n c) (.slice none n' c')).run Tryd.prog w = .ok (.bool a.isNone) w := fun w a n c n' c' => Lib.run_eql_slice_nil w _ _ a n c n' c' Tryd.underlying31
set_option maxHeartbeats 1000000 in
theorem clone_labs (A : Option Addr) (n c : Nat) (xs : List Value) (w : World) (hl : xs.length = n * 2) (h1 : ∀ u ∈ xs, u.oneCell' = true) (hr : RowC w A xs) (hs : n * 32 ≤ 140737488355328) :
    Calls Tryd.prog 104 #[.slice A n c] w (CloneP w 112 2 n xs) := by
  have q := nil31
  rcases A with _ | ad
  · have hn : n = 0 := by
      rcases Nat.eq_zero_or_pos n with h | h
      · exact h
      · obtain ⟨b, o, e, _⟩ := hr (by omega); cases e
    subst hn
    have hx : xs = [] := List.eq_nil_of_length_eq_zero (by simpa using hl)
    subst hx
    go_enter Tryd.func104, Tryd.ntmps104
    go_wp2
    go_ret
    exact ⟨_, rfl, World.ownsRow_nil _ _ _ _, Below.refl _ _⟩
  · obtain ⟨i0, hi0, hz0, hz1, hz2⟩ := info_parts info112
    have hmade := World.ownsRow_made w #[] 0 (base := w.heap.size) (e := 112) (size := 2) (Nat.le_refl _) (by unfold maxLen; omega) rfl
    have hnews : ∀ j u, xs[j]? = some u → (w.alloc (.cells #[] 112)).cell? (ad.add j) = some u := by
      intro j u hu
      have hj : j < xs.length := (List.getElem?_eq_some_iff.1 hu).1
      obtain ⟨b, o, e, hc⟩ := hr (by omega)
      cases e
      rw [addr_add]
      exact pw_cell_below ((Below.refl _ _).alloc (Nat.le_refl _) _) (hc j u hu)
    clear hr
    go_enter Tryd.func104, Tryd.ntmps104
    go_wp2_with (at_builtin; refine wpList_append_own _ rfl _ _ 31 rfl w.heap.size 112 i0 _ 2 32 Tryd.underlying31 hi0 hz0 hz1 hz2 rfl (by decide) _ 0 [] rfl hmade ad n c xs rfl hl hnews h1 (by unfold maxLen; omega) (by omega) (by simp) ?_; intro v' w1 hown hgrow _)
    go_ret
    refine ⟨v', rfl, by simpa using hown, ?_⟩
    exact ((Below.refl _ _).alloc (Nat.le_refl _) _).grown hgrow (by simp) (by intro k hk; cases hk; exact Nat.le_refl _)

end Go.Proofs.YtojocffjajcdmaaDoor
/- Raw entries: what their cells hold. -/
namespace Go.Proofs.YtojocffjajcdmaaDoor
open Go.RowKit Go.Proofs.YtojocffjajcdmaaDoorW.PrintWords Go.Proofs.YtojocffjajcdmaaDoorW.PrintLast Go.Proofs.YtojocffjajcdmaaDoorW.PrintMore PChunkAll
set_option linter.unusedVariables false
set_option linter.unusedSimpArgs false

theorem own_below {B : Nat} {e : TypeId} {k : Nat} {v : Value} {n : Nat} {xs : List Value} {w w' : World} (h : w.ownsRow B e k v n xs) (hb : Below w.heap.size w w') : w'.ownsRow B e k v n xs := by
  obtain ⟨h1, h2⟩ := h
  refine ⟨h1, ?_⟩
  rcases h2 with h2 | ⟨g', cap', cur, h2, h3, h4, h5⟩
  · exact .inl h2
  · refine .inr ⟨g', cap', cur, h2, h3, ?_, h5⟩
    rw [hb.block g' (Array.getElem?_eq_some_iff.1 h4).1]; exact h4
theorem own_le {B B' : Nat} {e : TypeId} {k : Nat} {v : Value} {n : Nat} {xs : List Value} {w : World} (h : w.ownsRow B e k v n xs) (hb : B' ≤ B) : w.ownsRow B' e k v n xs := by
  obtain ⟨h1, h2⟩ := h
  refine ⟨h1, ?_⟩
  rcases h2 with h2 | ⟨g', cap', cur, h2, h3, h4⟩
  · exact .inl h2
  · exact .inr ⟨g', cap', cur, h2, by omega, h4⟩
/-- An entry as it lies: what it says, where its labels are, and its place in the beginning. -/
structure RE where
  x : S33
  A : Option Addr
  c : Nat
  tg : Nat
instance : Inhabited RE := ⟨⟨z33, none, 0, 0⟩⟩
def RE.cells (r : RE) : List Value := [.int .i64 r.x.f0, .int .i64 r.x.f1, .slice r.A r.x.f2.length r.c, .string r.x.f3]
/-- Its labels are there. -/
def RE.ok (w : World) (r : RE) : Prop := r.x.f2.length ≤ r.c ∧ Kd.C k112 w r.A r.x.f2.length r.x.f2
theorem RE.ok.below {w w' : World} {r : RE} (h : r.ok w) (hb : Below w.heap.size w w') : r.ok w' := ⟨h.1, Kd.C_below h.2 hb⟩

theorem lcells_len (ls : List S112) : (lcells ls).length = ls.length * 2 := flat_len _ 2 (fun _ => rfl) ls
theorem lcells_one (ls : List S112) : ∀ u ∈ lcells ls, u.oneCell' = true := flat_one _ (fun x u hu => by simp at hu; rcases hu with rfl | rfl <;> rfl) ls
end Go.Proofs.YtojocffjajcdmaaDoor
/- Rows of one's own and appends of rows, inside regions. -/
namespace Go.Proofs.YtojocffjajcdmaaDoor.RS
open Go.RowKit Go.Proofs.YtojocffjajcdmaaDoor Go.Proofs.YtojocffjajcdmaaDoorW.PrintWords Go.Proofs.YtojocffjajcdmaaDoorW.PrintLast Go.Proofs.YtojocffjajcdmaaDoorW.PrintMore PChunkAll
set_option linter.unusedVariables false
set_option linter.unusedSimpArgs false

structure Ent where
  s : Int
  t : Int
  A : Option Addr
  n : Nat
  c : Nat
  x : ByteArray
abbrev Ent.cells (e : Ent) : Array Value := #[.int .i64 e.s, .int .i64 e.t, .slice e.A e.n e.c, .string e.x]
instance : Inhabited Ent := ⟨⟨0, 0, none, 0, 0, ⟨#[]⟩⟩⟩
abbrev RowCells := RowC
def ecells (es : List Ent) : List Value := es.flatMap fun e => e.cells.toList
theorem ecells_cons (a : Ent) (l : List Ent) : ecells (a :: l) = .int .i64 a.s :: .int .i64 a.t :: .slice a.A a.n a.c :: .string a.x :: ecells l := by simp [ecells]
theorem own_cap {w : World} {base n c m size : Nat} {A : Option Addr} {e : TypeId} {xs : List Value} (h : w.ownsRow base e size (.slice A n c) m xs) : n ≤ c := by
  rcases h.2 with ⟨hv, h0⟩ | ⟨g, cap, cur, hv, hb, hg, hc, _⟩
  · injection hv with _ h2 h3; omega
  · injection hv with _ h2 h3; omega
structure KeepF (w w' : World) (F : Nat → Prop) : Prop where
  os : w'.os = w.os
  tape : w'.tape = w.tape
  output : w'.output = w.output
  size : w.heap.size ≤ w'.heap.size
  block : ∀ k, k < w.heap.size → ¬ F k → w'.heap[k]? = w.heap[k]?
theorem KeepF.refl (w : World) (F : Nat → Prop) : KeepF w w F := ⟨rfl, rfl, rfl, Nat.le_refl _, fun _ _ _ => rfl⟩
theorem KeepF.of_below {w w' : World} (h : Below w.heap.size w w') (F : Nat → Prop) : KeepF w w' F := ⟨h.os, h.tape, h.output, h.size, fun k hk _ => h.block k hk⟩
theorem ecells_take (es : List Ent) : ∀ n, ecells (es.take n) = (ecells es).take (n * 4) := by
  induction es with
  | nil => intro n; simp [ecells]
  | cons a l ih =>
    intro n
    cases n with
    | zero => simp [ecells]
    | succ n => rw [List.take_succ_cons, ecells_cons, ecells_cons, ih, show (n + 1) * 4 = n * 4 + 1 + 1 + 1 + 1 from by omega]; simp
theorem RowCells.take {w : World} {A : Option Addr} {es : List Ent} (h : RowCells w A (ecells es)) (n : Nat) : RowCells w A (ecells (es.take n)) := fun hp => by
  rw [ecells_take] at hp
  obtain ⟨b, o, e1, hc⟩ := h (by rw [List.length_take] at hp; omega)
  refine ⟨b, o, e1, fun j u hu => hc j u ?_⟩
  rw [ecells_take, List.getElem?_take] at hu
  split at hu
  · exact hu
  · cases hu
end Go.Proofs.YtojocffjajcdmaaDoor.RS
