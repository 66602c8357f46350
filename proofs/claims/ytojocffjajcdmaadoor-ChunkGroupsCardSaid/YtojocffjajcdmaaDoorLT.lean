/- Rows of raw cells, and what slices.Clone makes of them. -/
import Derived.Test.YtojocffjajcdmaaDoorLA
import Derived.Lib.SliceRun
import Derived.Deep.AppendLies
import Derived.Deep.RegionHeldLaw
import Derived.Laws.OwnMore
namespace Go.Proofs.YtojocffjajcdmaaDoor
open Go.RowKit Go.Proofs.YtojocffjajcdmaaDoorW.PrintWords Go.Proofs.YtojocffjajcdmaaDoorW.PrintLast Go.Proofs.YtojocffjajcdmaaDoorW.PrintMore PChunkAll
set_option linter.unusedVariables false
set_option linter.unusedSimpArgs false

/-- A row of cells at an address; what it is worth where it is not empty. -/
def RowC (w : World) (A : Option Addr) (xs : List Value) : Prop := 0 < xs.length → ∃ b o, A = some ⟨b, o, none⟩ ∧ ∀ j u, xs[j]? = some u → w.cell? ⟨b, o + j, none⟩ = some u
theorem RowC.below {w w' : World} {A : Option Addr} {xs : List Value} (h : RowC w A xs) (hb : Below w.heap.size w w') : RowC w' A xs := fun hp => by
  obtain ⟨b, o, e, hc⟩ := h hp
  exact ⟨b, o, e, fun j u hu => pw_cell_below hb (hc j u hu)⟩

theorem flat_len {α : Type} (f : α → List Value) (s : Nat) (hf : ∀ x, (f x).length = s) (xs : List α) : (xs.flatMap f).length = xs.length * s := by
  induction xs with
  | nil => simp
  | cons a l ih => rw [List.flatMap_cons, List.length_append, hf, ih, List.length_cons, Nat.add_mul]; omega
theorem flat_get {α : Type} (f : α → List Value) (s : Nat) (hf : ∀ x, (f x).length = s) (xs : List α) (i j : Nat) (hi : i < xs.length) (hj : j < s) : (xs.flatMap f)[i * s + j]? = (f xs[i])[j]? := by
  induction xs generalizing i with
  | nil => simp at hi
  | cons a l ih =>
    rw [List.flatMap_cons]
    cases i with
    | zero => rw [List.getElem?_append_left (by rw [hf]; omega)]; simp
    | succ i =>
      rw [List.getElem?_append_right (by rw [hf, Nat.add_mul]; omega), hf, show (i + 1) * s + j - s = i * s + j by rw [Nat.add_mul]; omega, ih i (by simpa using hi)]
      simp
theorem flat_set {α : Type} (f : α → List Value) (s : Nat) (hf : ∀ x, (f x).length = s) (xs : List α) (i j : Nat) (u : Value) (y : α) (hi : i < xs.length) (hj : j < s) (hy : f y = (f xs[i]).set j u) : (xs.flatMap f).set (i * s + j) u = (xs.set i y).flatMap f := by
  induction xs generalizing i with
  | nil => simp at hi
  | cons a l ih =>
    rw [List.flatMap_cons]
    cases i with
    | zero => rw [List.set_append_left _ _ (by rw [hf]; omega)]; simp at hy; simp [hy]
    | succ i =>
      rw [List.set_append_right _ _ (by rw [hf, Nat.add_mul]; omega), hf, show (i + 1) * s + j - s = i * s + j by rw [Nat.add_mul]; omega, ih i (by simpa using hi) (by simpa using hy)]
      simp
theorem flat_one {α : Type} (f : α → List Value) (h1 : ∀ x, ∀ u ∈ f x, u.oneCell' = true) (xs : List α) : ∀ u ∈ xs.flatMap f, u.oneCell' = true := by
  intro u hu
  obtain ⟨x, _, hx⟩ := List.mem_flatMap.1 hu
  exact h1 x u hx

/-- Elements that say all their cells: read as a row of cells. -/
theorem cells_of_C {α : Type} {d : Kd α} {f : α → List Value} {w : World} {A : Option Addr} {xs : List α} (hf : ∀ x, (f x).length = d.sz) (hK : ∀ x cs, d.K w x cs → cs = f x) (h0 : 0 < d.sz) (h : Kd.C d w A xs.length xs) : RowC w A (xs.flatMap f) := fun hp => by
  rw [flat_len f d.sz hf] at hp
  have hn : 0 < xs.length := by
    rcases Nat.eq_zero_or_pos xs.length with e | e
    · rw [e] at hp; simp at hp
    · exact e
  obtain ⟨ad, e, hc⟩ := h.2.2 hn
  have hsp : ad = ⟨ad.block, ad.off, none⟩ := by
    obtain ⟨c, hl, hk, hcc⟩ := hc 0 _ (List.getElem?_eq_getElem hn)
    have h3 := hcc 0 _ (List.getElem?_eq_getElem (by omega))
    have h4 : ad.add (0 * d.sz + 0) = ad := by rw [Nat.zero_mul]; rfl
    rw [h4] at h3
    exact spot_none h3
  refine ⟨ad.block, ad.off, by rw [← hsp]; exact e, fun j u hu => ?_⟩
  have hjl : j < xs.length * d.sz := by
    have := (List.getElem?_eq_some_iff.1 hu).1
    rwa [flat_len f d.sz hf] at this
  have hq : j / d.sz < xs.length := (Nat.div_lt_iff_lt_mul h0).2 hjl
  have hr : j % d.sz < d.sz := Nat.mod_lt _ h0
  have hj : j = j / d.sz * d.sz + j % d.sz := by rw [Nat.mul_comm]; exact (Nat.div_add_mod j d.sz).symm
  obtain ⟨c, hl, hk, hcc⟩ := hc (j / d.sz) _ (List.getElem?_eq_getElem hq)
  rw [hK _ _ hk] at hcc
  rw [hj, flat_get f d.sz hf xs _ _ hq hr] at hu
  have h3 := hcc _ _ hu
  rw [← hj, hsp, addr_add] at h3
  exact h3
theorem C_of_cells {α : Type} {d : Kd α} {f : α → List Value} {w : World} {A : Option Addr} {xs : List α} (hf : ∀ x, (f x).length = d.sz) (hK : ∀ x, d.K w x (f x)) (h0 : 0 < d.sz) (hm : xs.length ≤ 9223372036854775807) (h : RowC w A (xs.flatMap f)) : Kd.C d w A xs.length xs := by
  refine ⟨rfl, hm, fun hn => ?_⟩
  obtain ⟨b, o, e, hc⟩ := h (by rw [flat_len f d.sz hf]; exact Nat.mul_pos hn h0)
  refine ⟨⟨b, o, none⟩, e, fun j p hj => ⟨f p, hf p, hK p, fun i u hu => ?_⟩⟩
  have hjl : j < xs.length := (List.getElem?_eq_some_iff.1 hj).1
  have hi : i < d.sz := by have := (List.getElem?_eq_some_iff.1 hu).1; rwa [hf] at this
  rw [addr_add]
  refine hc _ _ ?_
  rw [flat_get f d.sz hf xs j i hjl hi]
  rw [List.getElem?_eq_getElem hjl] at hj
  injection hj with hj
  rw [hj]; exact hu
theorem own_rowC {w : World} {base n c : Nat} {A : Option Addr} {e : TypeId} {size : Nat} {xs : List Value} (h : w.ownsRow base e size (.slice A n c) n xs) : RowC w A xs := fun hp => by
  have h' := h
  obtain ⟨hl, hv⟩ := h
  rcases hv with ⟨hv, hn⟩ | ⟨g, cap, cur, hv, _⟩
  · subst hn; rw [hl] at hp; simp at hp
  · have hA : A = some ⟨g, 0, none⟩ := by injection hv
    subst hA
    refine ⟨g, 0, rfl, fun j u hu => ?_⟩
    have := h'.cells (g := g) rfl j u hu
    rwa [addr_add] at this

def lcells (ls : List S112) : List Value := ls.flatMap fun l => [.string l.f0, .string l.f1]
theorem lab_C {w : World} {A : Option Addr} {ls : List S112} (h : Kd.C k112 w A ls.length ls) : RowC w A (lcells ls) :=
  cells_of_C (d := k112) (f := fun l => [.string l.f0, .string l.f1]) (fun _ => rfl) (fun x cs hx => k112_open hx) (by decide) h
theorem C_lab {w : World} {A : Option Addr} {ls : List S112} (hm : ls.length ≤ 9223372036854775807) (h : RowC w A (lcells ls)) : Kd.C k112 w A ls.length ls :=
  C_of_cells (d := k112) (f := fun l => [.string l.f0, .string l.f1]) (fun _ => rfl) (fun x => k112_mk w x) (by decide) hm h

def CloneP (w : World) (t sz n : Nat) (xs : List Value) (e : Ending) (w' : World) : Prop :=
  ∃ v', e = .returned v' ∧ w'.ownsRow w.heap.size t sz v' n xs ∧ Below w.heap.size w w'

theorem nil22 : ∀ (w : World) (a : Option Addr) (n c n' c' : Nat), (binOp .eql 22 (.slice a n c) (.slice none n' c')).run Tryd.prog w = .ok (.bool a.isNone) w := fun w a n c n' c' => Lib.run_eql_slice_nil w _ _ a n c n' c' Tryd.underlying22
set_option maxHeartbeats 1000000 in
theorem clone_ents (A : Option Addr) (n c : Nat) (xs : List Value) (w : World) (hl : xs.length = n * 4) (h1 : ∀ u ∈ xs, u.oneCell' = true) (hr : RowC w A xs) (hs : n * 56 ≤ 140737488355328) :
    Calls Tryd.prog 109 #[.slice A n c] w (CloneP w 33 4 n xs) := by
  have q := nil22
  rcases A with _ | ad
  · have hn : n = 0 := by
      rcases Nat.eq_zero_or_pos n with h | h
      · exact h
      · obtain ⟨b, o, e, _⟩ := hr (by omega); cases e
    subst hn
    have hx : xs = [] := List.eq_nil_of_length_eq_zero (by simpa using hl)
    subst hx
    go_enter Tryd.func109, Tryd.ntmps109
    go_wp2
    go_ret
    exact ⟨_, rfl, World.ownsRow_nil _ _ _ _, Below.refl _ _⟩
  · obtain ⟨i0, hi0, hz0, hz1, hz2⟩ := info_parts info33
    have hmade := World.ownsRow_made w #[] 0 (base := w.heap.size) (e := 33) (size := 4) (Nat.le_refl _) (by unfold maxLen; omega) rfl
    have hnews : ∀ j u, xs[j]? = some u → (w.alloc (.cells #[] 33)).cell? (ad.add j) = some u := by
      intro j u hu
      have hj : j < xs.length := (List.getElem?_eq_some_iff.1 hu).1
      obtain ⟨b, o, e, hc⟩ := hr (by omega)
      cases e
      rw [addr_add]
      exact pw_cell_below ((Below.refl _ _).alloc (Nat.le_refl _) _) (hc j u hu)
    clear hr
    go_enter Tryd.func109, Tryd.ntmps109
    go_wp2_with (at_builtin; refine wpList_append_own _ rfl _ _ 22 rfl w.heap.size 33 i0 _ 4 56 Tryd.underlying22 hi0 hz0 hz1 hz2 rfl (by decide) _ 0 [] rfl hmade ad n c xs rfl hl hnews h1 (by unfold maxLen; omega) (by omega) (by simp) ?_; intro v' w1 hown hgrow _)
    go_ret
    refine ⟨v', rfl, by simpa using hown, ?_⟩
    exact ((Below.refl _ _).alloc (Nat.le_refl _) _).grown hgrow (by simp) (by intro k hk; cases hk; exact Nat.le_refl _)

theorem nil31 : ∀ (w : World) (a : Option Addr) (n c n' c' : Nat), (binOp .eql 31 (.slice a n c) (.slice none n' c')).run Tryd.prog w = .ok (.bool a.isNone) w := fun w a n c n' c' => Lib.run_eql_slice_nil w _ _ a n c n' c' Tryd.underlying31
set_option maxHeartbeats 1000000 in
theorem clone_labs (A : Option Addr) (n c : Nat) (xs : List Value) (w : World) (hl : xs.length = n * 2) (h1 : ∀ u ∈ xs, u.oneCell' = true) (hr : RowC w A xs) (hs : n * 32 ≤ 140737488355328) :
    Calls Tryd.prog 104 #[.slice A n c] w (CloneP w 112 2 n xs) := by
  have q := nil31
  rcases A with _ | ad
  · have hn : n = 0 := by
      rcases Nat.eq_zero_or_pos n with h | h
      · exact h
      · obtain ⟨b, o, e, _⟩ := hr (by omega); cases e
    subst hn
    have hx : xs = [] := List.eq_nil_of_length_eq_zero (by simpa using hl)
    subst hx
    go_enter Tryd.func104, Tryd.ntmps104
    go_wp2
    go_ret
    exact ⟨_, rfl, World.ownsRow_nil _ _ _ _, Below.refl _ _⟩
  · obtain ⟨i0, hi0, hz0, hz1, hz2⟩ := info_parts info112
    have hmade := World.ownsRow_made w #[] 0 (base := w.heap.size) (e := 112) (size := 2) (Nat.le_refl _) (by unfold maxLen; omega) rfl
    have hnews : ∀ j u, xs[j]? = some u → (w.alloc (.cells #[] 112)).cell? (ad.add j) = some u := by
      intro j u hu
      have hj : j < xs.length := (List.getElem?_eq_some_iff.1 hu).1
      obtain ⟨b, o, e, hc⟩ := hr (by omega)
      cases e
      rw [addr_add]
      exact pw_cell_below ((Below.refl _ _).alloc (Nat.le_refl _) _) (hc j u hu)
    clear hr
    go_enter Tryd.func104, Tryd.ntmps104
    go_wp2_with (at_builtin; refine wpList_append_own _ rfl _ _ 31 rfl w.heap.size 112 i0 _ 2 32 Tryd.underlying31 hi0 hz0 hz1 hz2 rfl (by decide) _ 0 [] rfl hmade ad n c xs rfl hl hnews h1 (by unfold maxLen; omega) (by omega) (by simp) ?_; intro v' w1 hown hgrow _)
    go_ret
    refine ⟨v', rfl, by simpa using hown, ?_⟩
    exact ((Below.refl _ _).alloc (Nat.le_refl _) _).grown hgrow (by simp) (by intro k hk; cases hk; exact Nat.le_refl _)

end Go.Proofs.YtojocffjajcdmaaDoor
/- Raw entries: what their cells hold. -/
namespace Go.Proofs.YtojocffjajcdmaaDoor
open Go.RowKit Go.Proofs.YtojocffjajcdmaaDoorW.PrintWords Go.Proofs.YtojocffjajcdmaaDoorW.PrintLast Go.Proofs.YtojocffjajcdmaaDoorW.PrintMore PChunkAll
set_option linter.unusedVariables false
set_option linter.unusedSimpArgs false

theorem pick_lt {β : Type} [Inhabited β] {n : Nat} {R : Nat → β → Prop} (h : ∀ i, i < n → ∃ b, R i b) : ∃ f : Nat → β, ∀ i, i < n → R i (f i) := by
  refine ⟨fun i => if hi : i < n then Classical.choose (h i hi) else default, fun i hi => ?_⟩
  simp only [hi, dif_pos]
  exact Classical.choose_spec (h i hi)
theorem own_below {B : Nat} {e : TypeId} {k : Nat} {v : Value} {n : Nat} {xs : List Value} {w w' : World} (h : w.ownsRow B e k v n xs) (hb : Below w.heap.size w w') : w'.ownsRow B e k v n xs := by
  obtain ⟨h1, h2⟩ := h
  refine ⟨h1, ?_⟩
  rcases h2 with h2 | ⟨g', cap', cur, h2, h3, h4, h5⟩
  · exact .inl h2
  · refine .inr ⟨g', cap', cur, h2, h3, ?_, h5⟩
    rw [hb.block g' (Array.getElem?_eq_some_iff.1 h4).1]; exact h4
theorem own_le {B B' : Nat} {e : TypeId} {k : Nat} {v : Value} {n : Nat} {xs : List Value} {w : World} (h : w.ownsRow B e k v n xs) (hb : B' ≤ B) : w.ownsRow B' e k v n xs := by
  obtain ⟨h1, h2⟩ := h
  refine ⟨h1, ?_⟩
  rcases h2 with h2 | ⟨g', cap', cur, h2, h3, h4⟩
  · exact .inl h2
  · exact .inr ⟨g', cap', cur, h2, by omega, h4⟩
theorem bang_of (l : List Value) (i : Nat) (h : i < l.length) : l[i]! = l[i] := getElem!_pos l i h

/-- An entry as it lies: what it says, where its labels are, and its place in the beginning. -/
structure RE where
  x : S33
  A : Option Addr
  c : Nat
  tg : Nat
instance : Inhabited RE := ⟨⟨z33, none, 0, 0⟩⟩
def RE.cells (r : RE) : List Value := [.int .i64 r.x.f0, .int .i64 r.x.f1, .slice r.A r.x.f2.length r.c, .string r.x.f3]
theorem RE.cells_len (r : RE) : r.cells.length = 4 := rfl
theorem RE.cells_one (r : RE) : ∀ u ∈ r.cells, u.oneCell' = true := by
  intro u hu
  simp [RE.cells] at hu
  rcases hu with rfl | rfl | rfl | rfl <;> rfl
/-- Its labels are there. -/
def RE.ok (w : World) (r : RE) : Prop := r.x.f2.length ≤ r.c ∧ Kd.C k112 w r.A r.x.f2.length r.x.f2
theorem RE.ok.below {w w' : World} {r : RE} (h : r.ok w) (hb : Below w.heap.size w w') : r.ok w' := ⟨h.1, Kd.C_below h.2 hb⟩

/-- A row of entries taken apart. -/
theorem raw_of {w : World} {A : Option Addr} {l : List S33} (h : Kd.C k33 w A l.length l) : ∃ rs : List RE, rs.map (·.x) = l ∧ rs.map (·.tg) = List.range l.length ∧ RowC w A (rs.flatMap RE.cells) ∧ ∀ r ∈ rs, r.ok w := by
  by_cases hp : 0 < l.length
  · obtain ⟨b, o, rfl, hx⟩ := ents_at h hp
    have hex : ∀ i, i < l.length → ∃ r : RE, r.x = l.getD i z33 ∧ r.tg = i ∧ r.ok w ∧ ∀ j u, r.cells[j]? = some u → w.cell? ⟨b, o + i * 4 + j, none⟩ = some u := by
      intro i hi
      obtain ⟨A2, c2, h0, h1, h2, h3, h4, h5⟩ := hx i hi
      refine ⟨⟨l.getD i z33, A2, c2, i⟩, rfl, rfl, ⟨h4, h5⟩, fun j u hu => ?_⟩
      rcases j with _ | _ | _ | _ | j <;> simp [RE.cells] at hu <;> subst hu <;> assumption
    obtain ⟨f, hf⟩ := pick_lt hex
    have hg : ∀ i (h : i < ((List.range l.length).map f).length), ((List.range l.length).map f)[i] = f i := fun i h => by simp
    refine ⟨(List.range l.length).map f, ?_, ?_, fun hq => ⟨b, o, rfl, fun j u hu => ?_⟩, fun r hr => ?_⟩
    · apply List.ext_getElem
      · simp
      · intro i h1 h2
        simp only [List.getElem_map, List.getElem_range]
        rw [(hf i h2).1]; simp [h2]
    · apply List.ext_getElem
      · simp
      · intro i h1 h2
        simp only [List.getElem_map, List.getElem_range]
        exact (hf i (by simpa using h2)).2.1
    · have hj := (List.getElem?_eq_some_iff.1 hu).1
      rw [flat_len RE.cells 4 RE.cells_len] at hj
      have hjn : j < l.length * 4 := by simpa using hj
      have e : j = j / 4 * 4 + j % 4 := by omega
      have hi : j / 4 < ((List.range l.length).map f).length := by simp; omega
      rw [e, flat_get RE.cells 4 RE.cells_len _ _ _ hi (by omega), hg] at hu
      have := (hf (j / 4) (by omega)).2.2.2 _ _ hu
      rwa [Nat.add_assoc, ← e] at this
    · obtain ⟨i, hi, rfl⟩ := List.mem_map.1 hr
      exact (hf i (List.mem_range.1 hi)).2.2.1
  · have : l = [] := List.eq_nil_of_length_eq_zero (by omega)
    subst this
    exact ⟨[], rfl, rfl, fun hq => absurd hq (by simp), fun r hr => by cases hr⟩

/-- .. and put together. -/
theorem raw_C {w : World} {A : Option Addr} {rs : List RE} (hm : rs.length ≤ 9223372036854775807) (hr : RowC w A (rs.flatMap RE.cells)) (hk : ∀ r ∈ rs, r.ok w) : Kd.C k33 w A rs.length (rs.map (·.x)) := by
  refine ⟨by simp, hm, fun hn => ?_⟩
  obtain ⟨b, o, e, hc⟩ := hr (by rw [flat_len RE.cells 4 RE.cells_len]; omega)
  refine ⟨⟨b, o, none⟩, e, fun j p hj => ?_⟩
  have hjl : j < rs.length := by have := (List.getElem?_eq_some_iff.1 hj).1; simpa using this
  rw [List.getElem?_map, List.getElem?_eq_getElem hjl] at hj
  simp at hj
  subst hj
  have ho := hk rs[j] (List.getElem_mem hjl)
  refine ⟨rs[j].cells, rfl, k33_mk w rs[j].x ho.1 ho.2, fun i u hu => ?_⟩
  have hi : i < 4 := by have := (List.getElem?_eq_some_iff.1 hu).1; rwa [RE.cells_len] at this
  rw [addr_add]
  refine hc _ _ ?_
  rw [show k33.sz = 4 from rfl, flat_get RE.cells 4 RE.cells_len rs j i hjl hi]
  exact hu

theorem cmpE_lt (s t s' t' : Int) : cmpE s t s' t' < 0 ↔ t < t' ∨ t = t' ∧ s < s' := by
  unfold cmpE orI cmpI
  repeat' split
  all_goals omega
theorem lcells_len (ls : List S112) : (lcells ls).length = ls.length * 2 := flat_len _ 2 (fun _ => rfl) ls
theorem lcells_one (ls : List S112) : ∀ u ∈ lcells ls, u.oneCell' = true := flat_one _ (fun x u hu => by simp at hu; rcases hu with rfl | rfl <;> rfl) ls
end Go.Proofs.YtojocffjajcdmaaDoor
/- Rows of one's own and appends of rows, inside regions. -/
namespace Go.Proofs.YtojocffjajcdmaaDoor.RS
open Go.RowKit Go.Proofs.YtojocffjajcdmaaDoor Go.Proofs.YtojocffjajcdmaaDoorW.PrintWords Go.Proofs.YtojocffjajcdmaaDoorW.PrintLast Go.Proofs.YtojocffjajcdmaaDoorW.PrintMore PChunkAll
set_option linter.unusedVariables false
set_option linter.unusedSimpArgs false

structure Ent where
  s : Int
  t : Int
  A : Option Addr
  n : Nat
  c : Nat
  x : ByteArray
abbrev Ent.cells (e : Ent) : Array Value := #[.int .i64 e.s, .int .i64 e.t, .slice e.A e.n e.c, .string e.x]
instance : Inhabited Ent := ⟨⟨0, 0, none, 0, 0, ⟨#[]⟩⟩⟩
structure EntCells (w : World) (b o : Nat) (e : Ent) : Prop where
  c0 : w.cell? ⟨b, o, none⟩ = some (.int .i64 e.s)
  c1 : w.cell? ⟨b, o + 1, none⟩ = some (.int .i64 e.t)
  c2 : w.cell? ⟨b, o + 2, none⟩ = some (.slice e.A e.n e.c)
  c3 : w.cell? ⟨b, o + 3, none⟩ = some (.string e.x)
theorem keepc {w w' : World} {a : Addr} {v : Value} (hb : Below w.heap.size w w') (h : w.cell? a = some v) : w'.cell? a = some v :=
  (hb.cell (block_lt_of_cell h)).trans h

theorem undrew {w w2 : World} (h : Below w.drew.heap.size w.drew w2) : Below w.heap.size w w2 := ⟨h.os, h.tape, h.output, h.size, h.block⟩
theorem thenB {w0 w w2 : World} (h : Below w0.heap.size w0 w) (h2 : Below w.heap.size w w2) : Below w0.heap.size w0 w2 := h.trans (h2.mono h.size)
abbrev RowCells := RowC
def ecells (es : List Ent) : List Value := es.flatMap fun e => e.cells.toList
theorem ecells_length (es : List Ent) : (ecells es).length = es.length * 4 := by
  induction es with
  | nil => rfl
  | cons a l ih => rw [show ecells (a :: l) = a.cells.toList ++ ecells l from rfl, List.length_append, ih]; simp; omega
theorem ecells_one (es : List Ent) : ∀ u ∈ ecells es, u.oneCell' = true := by
  intro u hu
  obtain ⟨e, _, he⟩ := List.mem_flatMap.1 hu
  simp at he
  rcases he with rfl | rfl | rfl | rfl <;> rfl
theorem ecells_get (es : List Ent) (i : Nat) (h : i < es.length) : (ecells es)[i * 4]? = some (.int .i64 es[i].s) ∧ (ecells es)[i * 4 + 1]? = some (.int .i64 es[i].t) ∧ (ecells es)[i * 4 + 2]? = some (.slice es[i].A es[i].n es[i].c) ∧ (ecells es)[i * 4 + 3]? = some (.string es[i].x) := by
  induction es generalizing i with
  | nil => simp at h
  | cons a l ih =>
    have e : ecells (a :: l) = .int .i64 a.s :: .int .i64 a.t :: .slice a.A a.n a.c :: .string a.x :: ecells l := rfl
    cases i with
    | zero => rw [e]; simp
    | succ i =>
      have := ih i (by simpa using h)
      rw [e, show (i + 1) * 4 = i * 4 + 1 + 1 + 1 + 1 from by omega]
      simpa using this

theorem ecells_cons (a : Ent) (l : List Ent) : ecells (a :: l) = .int .i64 a.s :: .int .i64 a.t :: .slice a.A a.n a.c :: .string a.x :: ecells l := by simp [ecells]
theorem entCells_of {w : World} {b o : Nat} {es : List Ent} (hc : ∀ j u, (ecells es)[j]? = some u → w.cell? ⟨b, o + j, none⟩ = some u) (i : Nat) (h : i < es.length) : EntCells w b (o + i * 4) es[i] := by
  obtain ⟨a0, a1, a2, a3⟩ := ecells_get es i h
  exact ⟨hc _ _ a0, by have := hc _ _ a1; rwa [← Nat.add_assoc] at this, by have := hc _ _ a2; rwa [← Nat.add_assoc] at this, by have := hc _ _ a3; rwa [← Nat.add_assoc] at this⟩

theorem own_ecells {w : World} {base g n c m : Nat} {es : List Ent} (h : w.ownsRow base 33 4 (.slice (some ⟨g, 0, none⟩) n c) m (ecells es)) (i : Nat) (hi : i < es.length) : EntCells w g (i * 4) es[i] := by
  have := entCells_of (w := w) (b := g) (o := 0) (es := es) (fun j u hu => by
    have := h.cells (g := g) rfl j u hu
    rwa [addr_add] at this) i hi
  simpa using this

theorem own_at {w : World} {base n c m size : Nat} {A : Option Addr} {e : TypeId} {xs : List Value} (h : w.ownsRow base e size (.slice A n c) m xs) (hp : 0 < m) : ∃ g, A = some ⟨g, 0, none⟩ ∧ base ≤ g ∧ ∃ cur, w.heap[g]? = some (.cells cur e (0, 0)) := by
  rcases h.2 with ⟨hv, h0⟩ | ⟨g, cap, cur, hv, hb, hg, _⟩
  · omega
  · injection hv with h1
    exact ⟨g, h1, hb, cur, hg⟩

theorem own_cap {w : World} {base n c m size : Nat} {A : Option Addr} {e : TypeId} {xs : List Value} (h : w.ownsRow base e size (.slice A n c) m xs) : n ≤ c := by
  rcases h.2 with ⟨hv, h0⟩ | ⟨g, cap, cur, hv, hb, hg, hc, _⟩
  · injection hv with _ h2 h3; omega
  · injection hv with _ h2 h3; omega
theorem own_nilcap {w : World} {base n c : Nat} {A : Option Addr} {e : TypeId} {size : Nat} {xs : List Value} (h : w.ownsRow base e size (.slice A n c) n xs) : A = none → c = 0 := by
  rintro rfl
  rcases h.2 with ⟨hv, h0⟩ | ⟨g, cap, cur, hv, _⟩
  · injection hv
  · injection hv with h1; cases h1
theorem own_rowCells {w : World} {base n c : Nat} {A : Option Addr} {e : TypeId} {size : Nat} {xs : List Value} (h : w.ownsRow base e size (.slice A n c) n xs) : RowCells w A xs := own_rowC h
theorem own_sl {w : World} {base n : Nat} {e : TypeId} {size : Nat} {v : Value} {xs : List Value} (h : w.ownsRow base e size v n xs) : ∃ A c, v = .slice A n c := by
  rcases h.2 with ⟨rfl, rfl⟩ | ⟨g, cap, cur, rfl, _⟩
  · exact ⟨none, 0, rfl⟩
  · exact ⟨_, cap, rfl⟩
structure KeepF (w w' : World) (F : Nat → Prop) : Prop where
  os : w'.os = w.os
  tape : w'.tape = w.tape
  output : w'.output = w.output
  size : w.heap.size ≤ w'.heap.size
  block : ∀ k, k < w.heap.size → ¬ F k → w'.heap[k]? = w.heap[k]?
theorem KeepF.refl (w : World) (F : Nat → Prop) : KeepF w w F := ⟨rfl, rfl, rfl, Nat.le_refl _, fun _ _ _ => rfl⟩
theorem KeepF.of_below {w w' : World} (h : Below w.heap.size w w') (F : Nat → Prop) : KeepF w w' F := ⟨h.os, h.tape, h.output, h.size, fun k hk _ => h.block k hk⟩
theorem ownsRow_lower {w : World} {b b' : Nat} {e : TypeId} {size : Nat} {v : Value} {n : Nat} {xs : List Value} (h : w.ownsRow b e size v n xs) (hb : b' ≤ b) : w.ownsRow b' e size v n xs := by
  refine ⟨h.1, ?_⟩
  rcases h.2 with h' | ⟨g, cap, cur, rfl, hb2, r⟩
  · exact .inl h'
  · exact .inr ⟨g, cap, cur, rfl, Nat.le_trans hb hb2, r⟩
theorem ownsRow_keepF {w w' : World} {F : Nat → Prop} {b : Nat} {e : TypeId} {size : Nat} {v : Value} {n : Nat} {xs : List Value} (h : w.ownsRow b e size v n xs) (k : KeepF w w' F) (hF : ∀ q, v.ownBlock = some q → ¬ F q) : w'.ownsRow b e size v n xs := by
  refine ⟨h.1, ?_⟩
  rcases h.2 with h' | ⟨g, cap, cur, rfl, hb2, hg, r⟩
  · exact .inl h'
  · exact .inr ⟨g, cap, cur, rfl, hb2, (k.block g (Array.getElem?_eq_some_iff.1 hg).1 (hF g rfl)).trans hg, r⟩
theorem _root_.Go.World.ownsRow.drew2 {w : World} {base : Nat} {e : TypeId} {size : Nat} {v : Value} {n : Nat} {xs : List Value} (h : w.ownsRow base e size v n xs) : w.drew.ownsRow base e size v n xs := h
theorem rowCells_blk {w : World} {b t : Nat} {cs : Array Value} (h : Blk w b cs t) : RowCells w (some ⟨b, 0, none⟩) cs.toList := fun _ =>
  ⟨b, 0, rfl, fun j u hu => by rw [Nat.zero_add]; exact h.cell j u (by simpa using hu)⟩

theorem wrap_in (n : Int) (h0 : -9223372036854775808 ≤ n) (h1 : n ≤ 9223372036854775807) : IntKind.i64.wrap n = n := IntWalk.i64_in n ⟨h0, h1⟩
theorem before_of {s t s' t' : Int} {b : Bool} (h : b = true ↔ t < t' ∨ (t = t' ∧ s < s')) : beforeE s t s' t' = b := by
  rw [Bool.eq_iff_iff, h]; unfold beforeE; rw [decide_eq_true_iff, cmpE_lt]

set_option maxHeartbeats 400000 in
theorem rbefore_any (s1 t1 s2 t2 : Int) (l1 l2 n1 n2 : Value) (w : World) :
    Calls Tryd.prog 52 #[.agg #[.int .i64 s1, .int .i64 t1, l1, n1], .agg #[.int .i64 s2, .int .i64 t2, l2, n2]] w
      fun e w' => e = .returned (.bool (beforeE s1 t1 s2 t2)) ∧ Below w.heap.size w w' := by
  have hbB : Below w.heap.size w ((w.alloc (.cells #[.int .i64 s1, .int .i64 t1, l1, n1] 33)).alloc (.cells #[.int .i64 s2, .int .i64 t2, l2, n2] 33)) := ((Below.refl _ _).alloc (Nat.le_refl _) _).alloc (by simp) _
  by_cases h1 : t1 < t2
  · have hr : beforeE s1 t1 s2 t2 = true := before_of (by simp [h1])
    have HR := Lib.hid hr; clear hr
    go_enter Tryd.func52, Tryd.ntmps52
    go_wp2
    go_ret
    exact ⟨by rw [HR.out]; rfl, hbB⟩
  · by_cases h2 : t1 = t2
    · have h2' : (t1 == t2) = true := by simpa using h2
      by_cases h3 : s1 < s2
      · have hr : beforeE s1 t1 s2 t2 = true := before_of (by simp [h2, h3])
        have HR := Lib.hid hr; clear hr h2
        go_enter Tryd.func52, Tryd.ntmps52
        go_wp2
        go_ret
        exact ⟨by rw [HR.out]; rfl, hbB⟩
      · have hr : beforeE s1 t1 s2 t2 = false := before_of (by simp [h2, h3])
        have HR := Lib.hid hr; clear hr h2
        go_enter Tryd.func52, Tryd.ntmps52
        go_wp2
        go_ret
        exact ⟨by rw [HR.out]; rfl, hbB⟩
    · have h2' : (t1 == t2) = false := by simpa using h2
      have hr : beforeE s1 t1 s2 t2 = false := before_of (by simp; omega)
      have HR := Lib.hid hr; clear hr h2
      go_enter Tryd.func52, Tryd.ntmps52
      go_wp2
      go_ret
      exact ⟨by rw [HR.out]; rfl, hbB⟩

/-- append at a step of a region that draws, whatever is appended. -/
theorem step_append_row {P : Program} (w : World) {ops : Array Oper} {o : Oper} {a : Act} {K : Act → World → Prop} {Q : Exit → Act → World → Prop} {E : Prop} (hgd : o.guard = none) (s x : Operand) (t : TypeId)
    (ho : o.op = .call { callee := .builtin .append, args := #[s, x], argTypes := #[t, t] })
    (base : Nat) (e : TypeId) (i : TypeInfo) (z : Value) (size bytes : Nat) (ht : P.underlying t = some (.slice e)) (hi : P.info? e = some i) (hz : i.zero = some z)
    (hsize : i.size = size) (hby : i.bytes = bytes) (hzs : z.cells.size = size) (hsz : 0 < size)
    (v : Value) (n : Nat) (xs : List Value) (hs : a.eval s = v) (hown : w.ownsRow base e size v n xs)
    (A : Option Addr) (m c : Nat) (news : List Value) (hx : a.eval x = .slice A m c) (hA : A = none → c = 0) (hmc : m ≤ c) (hl : news.length = m * size) (hnews : RowCells w A news) (h1 : ∀ u ∈ news, u.oneCell' = true)
    (h63 : n + m ≤ maxLen) (hbytes : (n + m) * bytes ≤ 140737488355328) (hbase : base ≤ w.heap.size)
    (h : ∀ v' w', w'.ownsRow base e size v' (n + m) (xs ++ news) → w.grownBy w' v.ownBlock → K (a.put o.dst v') w') :
    if Region.wanted o (yielded ops a.tmps) = true then Oper.wp P o a w K Q else E := by
  have hw : Region.wanted o (yielded ops a.tmps) = true := by simp [Region.wanted, hgd]
  rw [if_pos hw]
  rcases A with _ | ad
  · obtain rfl : c = 0 := hA rfl
    obtain rfl : m = 0 := by omega
    have hn : news = [] := List.eq_nil_of_length_eq_zero (by simpa using hl)
    subst hn
    have hrun := run_append_owned_none (P := P) (w := w) base t o.type e i size ht hi v n xs hown
    unfold Oper.wp
    simp [execOp, ho, resolve, invoke, builtin, hs, hx, hrun, Result.andThen]
    exact h v w (by simpa using hown) ⟨rfl, rfl, rfl, Nat.le_refl _, fun k _ _ => rfl⟩
  · exact wp_append_own w s x t ho base e i z size bytes ht hi hz hsize hby hzs hsz v n xs hs hown ad m c news hx hl (fun j u hu => by
      have hj := (List.getElem?_eq_some_iff.1 hu).1
      obtain ⟨b, o', e', hc⟩ := hnews (by omega)
      cases e'
      rw [addr_add]
      exact hc j u hu) h1 h63 hbytes hbase (fun v' w' h2 h3 _ => h v' w' h2 h3)

theorem own_made' {W : World} {B n : Nat} (hB : B ≤ W.heap.size) (hn : n = W.heap.size) : (W.alloc (.cells #[] 33)).ownsRow B 33 4 (.slice (some ⟨n, 0, none⟩) 0 0) 0 [] := by
  subst hn
  exact World.ownsRow_made W #[] 0 (base := B) (e := 33) (size := 4) hB (by unfold maxLen; omega) rfl

theorem ecells_take (es : List Ent) : ∀ n, ecells (es.take n) = (ecells es).take (n * 4) := by
  induction es with
  | nil => intro n; simp [ecells]
  | cons a l ih =>
    intro n
    cases n with
    | zero => simp [ecells]
    | succ n => rw [List.take_succ_cons, ecells_cons, ecells_cons, ih, show (n + 1) * 4 = n * 4 + 1 + 1 + 1 + 1 from by omega]; simp
theorem ecells_drop (es : List Ent) : ∀ n, ecells (es.drop n) = (ecells es).drop (n * 4) := by
  induction es with
  | nil => intro n; simp [ecells]
  | cons a l ih =>
    intro n
    cases n with
    | zero => simp
    | succ n => rw [List.drop_succ_cons, ecells_cons, ih, show (n + 1) * 4 = n * 4 + 1 + 1 + 1 + 1 from by omega]; simp
theorem RowCells.take {w : World} {A : Option Addr} {es : List Ent} (h : RowCells w A (ecells es)) (n : Nat) : RowCells w A (ecells (es.take n)) := fun hp => by
  rw [ecells_take] at hp
  obtain ⟨b, o, e1, hc⟩ := h (by rw [List.length_take] at hp; omega)
  refine ⟨b, o, e1, fun j u hu => hc j u ?_⟩
  rw [ecells_take, List.getElem?_take] at hu
  split at hu
  · exact hu
  · cases hu
theorem rowCells_drop {w : World} {b o : Nat} {es : List Ent} (h : RowCells w (some ⟨b, o, none⟩) (ecells es)) (n : Nat) : RowCells w (some ⟨b, o + n * 4, none⟩) (ecells (es.drop n)) := fun hp => by
  rw [ecells_drop] at hp
  obtain ⟨b', o', e1, hc⟩ := h (by rw [List.length_drop] at hp; omega)
  injection e1 with e1; injection e1 with e1 e2
  subst e1; subst e2
  refine ⟨b, o + n * 4, rfl, fun j u hu => ?_⟩
  rw [ecells_drop, List.getElem?_drop] at hu
  have := hc _ u hu
  rwa [← Nat.add_assoc] at this
theorem rowCells_new {w : World} {cs : Array Value} {t n : Nat} (hn : n = w.heap.size) : RowCells (w.alloc (.cells cs t)) (some ⟨n, 0, none⟩) cs.toList := rowCells_blk (Blk.new w cs t n hn)
theorem rowCells_grown {w w' : World} {b t : Nat} {cs : Array Value} {row : Option Nat} (h : Blk w b cs t) (hg : w.grownBy w' row) (hne : row ≠ some b) : RowCells w' (some ⟨b, 0, none⟩) cs.toList :=
  rowCells_blk (w := w') (t := t) ⟨(hg.block b h.lt (fun e => hne e.symm)).trans h.out⟩

end Go.Proofs.YtojocffjajcdmaaDoor.RS
