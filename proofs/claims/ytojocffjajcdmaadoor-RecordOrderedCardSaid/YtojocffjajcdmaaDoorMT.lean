/- Rows of raw cells, and what slices.Clone makes of them. -/
import Derived.Test.YtojocffjajcdmaaDoorMA
import Derived.Lib.SliceRun
import Derived.Test.YtojocffjajcdmaaDoorMS
namespace Go.Proofs.YtojocffjajcdmaaDoor
open Go.RowKit Go.Proofs.YtojocffjajcdmaaDoorW.PrintWords Go.Proofs.YtojocffjajcdmaaDoorW.PrintLast Go.Proofs.YtojocffjajcdmaaDoorW.PrintMore PChunkAll
set_option linter.unusedVariables false
set_option linter.unusedSimpArgs false

/-- A row of cells at an address; what it is worth where it is not empty. -/
def RowC (w : World) (A : Option Addr) (xs : List Value) : Prop := 0 < xs.length → ∃ b o, A = some ⟨b, o, none⟩ ∧ ∀ j u, xs[j]? = some u → w.cell? ⟨b, o + j, none⟩ = some u
theorem RowC.below {w w' : World} {A : Option Addr} {xs : List Value} (h : RowC w A xs) (hb : Below w.heap.size w w') : RowC w' A xs := fun hp => by
  obtain ⟨b, o, e, hc⟩ := h hp
  exact ⟨b, o, e, fun j u hu => pw_cell_below hb (hc j u hu)⟩

theorem flat_len {α : Type} (f : α → List Value) (s : Nat) (hf : ∀ x, (f x).length = s) (xs : List α) : (xs.flatMap f).length = xs.length * s := by
  induction xs with
  | nil => simp
  | cons a l ih => rw [List.flatMap_cons, List.length_append, hf, ih, List.length_cons, Nat.add_mul]; omega
theorem flat_get {α : Type} (f : α → List Value) (s : Nat) (hf : ∀ x, (f x).length = s) (xs : List α) (i j : Nat) (hi : i < xs.length) (hj : j < s) : (xs.flatMap f)[i * s + j]? = (f xs[i])[j]? := by
  induction xs generalizing i with
  | nil => simp at hi
  | cons a l ih =>
    rw [List.flatMap_cons]
    cases i with
    | zero => rw [List.getElem?_append_left (by rw [hf]; omega)]; simp
    | succ i =>
      rw [List.getElem?_append_right (by rw [hf, Nat.add_mul]; omega), hf, show (i + 1) * s + j - s = i * s + j by rw [Nat.add_mul]; omega, ih i (by simpa using hi)]
      simp
theorem flat_set {α : Type} (f : α → List Value) (s : Nat) (hf : ∀ x, (f x).length = s) (xs : List α) (i j : Nat) (u : Value) (y : α) (hi : i < xs.length) (hj : j < s) (hy : f y = (f xs[i]).set j u) : (xs.flatMap f).set (i * s + j) u = (xs.set i y).flatMap f := by
  induction xs generalizing i with
  | nil => simp at hi
  | cons a l ih =>
    rw [List.flatMap_cons]
    cases i with
    | zero => rw [List.set_append_left _ _ (by rw [hf]; omega)]; simp at hy; simp [hy]
    | succ i =>
      rw [List.set_append_right _ _ (by rw [hf, Nat.add_mul]; omega), hf, show (i + 1) * s + j - s = i * s + j by rw [Nat.add_mul]; omega, ih i (by simpa using hi) (by simpa using hy)]
      simp
theorem flat_one {α : Type} (f : α → List Value) (h1 : ∀ x, ∀ u ∈ f x, u.oneCell' = true) (xs : List α) : ∀ u ∈ xs.flatMap f, u.oneCell' = true := by
  intro u hu
  obtain ⟨x, _, hx⟩ := List.mem_flatMap.1 hu
  exact h1 x u hx

/-- Elements that say all their cells: read as a row of cells. -/
theorem cells_of_C {α : Type} {d : Kd α} {f : α → List Value} {w : World} {A : Option Addr} {xs : List α} (hf : ∀ x, (f x).length = d.sz) (hK : ∀ x cs, d.K w x cs → cs = f x) (h0 : 0 < d.sz) (h : Kd.C d w A xs.length xs) : RowC w A (xs.flatMap f) := fun hp => by
  rw [flat_len f d.sz hf] at hp
  have hn : 0 < xs.length := by
    rcases Nat.eq_zero_or_pos xs.length with e | e
    · rw [e] at hp; simp at hp
    · exact e
  obtain ⟨ad, e, hc⟩ := h.2.2 hn
  have hsp : ad = ⟨ad.block, ad.off, none⟩ := by
    obtain ⟨c, hl, hk, hcc⟩ := hc 0 _ (List.getElem?_eq_getElem hn)
    have h3 := hcc 0 _ (List.getElem?_eq_getElem (by omega))
    have h4 : ad.add (0 * d.sz + 0) = ad := by rw [Nat.zero_mul]; rfl
    rw [h4] at h3
    exact spot_none h3
  refine ⟨ad.block, ad.off, by rw [← hsp]; exact e, fun j u hu => ?_⟩
  have hjl : j < xs.length * d.sz := by
    have := (List.getElem?_eq_some_iff.1 hu).1
    rwa [flat_len f d.sz hf] at this
  have hq : j / d.sz < xs.length := (Nat.div_lt_iff_lt_mul h0).2 hjl
  have hr : j % d.sz < d.sz := Nat.mod_lt _ h0
  have hj : j = j / d.sz * d.sz + j % d.sz := by rw [Nat.mul_comm]; exact (Nat.div_add_mod j d.sz).symm
  obtain ⟨c, hl, hk, hcc⟩ := hc (j / d.sz) _ (List.getElem?_eq_getElem hq)
  rw [hK _ _ hk] at hcc
  rw [hj, flat_get f d.sz hf xs _ _ hq hr] at hu
  have h3 := hcc _ _ hu
  rw [← hj, hsp, addr_add] at h3
  exact h3
theorem C_of_cells {α : Type} {d : Kd α} {f : α → List Value} {w : World} {A : Option Addr} {xs : List α} (hf : ∀ x, (f x).length = d.sz) (hK : ∀ x, d.K w x (f x)) (h0 : 0 < d.sz) (hm : xs.length ≤ 9223372036854775807) (h : RowC w A (xs.flatMap f)) : Kd.C d w A xs.length xs := by
  refine ⟨rfl, hm, fun hn => ?_⟩
  obtain ⟨b, o, e, hc⟩ := h (by rw [flat_len f d.sz hf]; exact Nat.mul_pos hn h0)
  refine ⟨⟨b, o, none⟩, e, fun j p hj => ⟨f p, hf p, hK p, fun i u hu => ?_⟩⟩
  have hjl : j < xs.length := (List.getElem?_eq_some_iff.1 hj).1
  have hi : i < d.sz := by have := (List.getElem?_eq_some_iff.1 hu).1; rwa [hf] at this
  rw [addr_add]
  refine hc _ _ ?_
  rw [flat_get f d.sz hf xs j i hjl hi]
  rw [List.getElem?_eq_getElem hjl] at hj
  injection hj with hj
  rw [hj]; exact hu
theorem own_rowC {w : World} {base n c : Nat} {A : Option Addr} {e : TypeId} {size : Nat} {xs : List Value} (h : w.ownsRow base e size (.slice A n c) n xs) : RowC w A xs := fun hp => by
  have h' := h
  obtain ⟨hl, hv⟩ := h
  rcases hv with ⟨hv, hn⟩ | ⟨g, cap, cur, hv, _⟩
  · subst hn; rw [hl] at hp; simp at hp
  · have hA : A = some ⟨g, 0, none⟩ := by injection hv
    subst hA
    refine ⟨g, 0, rfl, fun j u hu => ?_⟩
    have := h'.cells (g := g) rfl j u hu
    rwa [addr_add] at this

def lcells (ls : List S112) : List Value := ls.flatMap fun l => [.string l.f0, .string l.f1]
theorem lab_C {w : World} {A : Option Addr} {ls : List S112} (h : Kd.C k112 w A ls.length ls) : RowC w A (lcells ls) :=
  cells_of_C (d := k112) (f := fun l => [.string l.f0, .string l.f1]) (fun _ => rfl) (fun x cs hx => k112_open hx) (by decide) h
theorem C_lab {w : World} {A : Option Addr} {ls : List S112} (hm : ls.length ≤ 9223372036854775807) (h : RowC w A (lcells ls)) : Kd.C k112 w A ls.length ls :=
  C_of_cells (d := k112) (f := fun l => [.string l.f0, .string l.f1]) (fun _ => rfl) (fun x => k112_mk w x) (by decide) hm h

def CloneP (w : World) (t sz n : Nat) (xs : List Value) (e : Ending) (w' : World) : Prop :=
  ∃ v', e = .returned v' ∧ w'.ownsRow w.heap.size t sz v' n xs ∧ Below w.heap.size w w'

theorem nil22 : ∀ (w : World) (a : Option Addr) (n c n' c' : Nat), (binOp .eql 22 (.slice a n c) (.slice none n' c')).run Tryd.prog w = .ok (.bool a.isNone) w := fun w a n c n' c' => Lib.run_eql_slice_nil w _ _ a n c n' c' Tryd.underlying22
set_option maxHeartbeats 1000000 in
theorem clone_ents (A : Option Addr) (n c : Nat) (xs : List Value) (w : World) (hl : xs.length = n * 4) (h1 : ∀ u ∈ xs, u.oneCell' = true) (hr : RowC w A xs) (hs : n * 56 ≤ 140737488355328) :
    Calls Tryd.prog 109 #[.slice A n c] w (CloneP w 33 4 n xs) := by
  have q := nil22
  rcases A with _ | ad
  · have hn : n = 0 := by
      rcases Nat.eq_zero_or_pos n with h | h
      · exact h
      · obtain ⟨b, o, e, _⟩ := hr (by omega); cases e
    subst hn
    have hx : xs = [] := List.eq_nil_of_length_eq_zero (by simpa using hl)
    subst hx
    go_enter Tryd.func109, Tryd.ntmps109
    go_wp2
    go_ret
    exact ⟨_, rfl, World.ownsRow_nil _ _ _ _, Below.refl _ _⟩
  · obtain ⟨i0, hi0, hz0, hz1, hz2⟩ := info_parts info33
    have hmade := World.ownsRow_made w #[] 0 (base := w.heap.size) (e := 33) (size := 4) (Nat.le_refl _) (by unfold maxLen; omega) rfl
    have hnews : ∀ j u, xs[j]? = some u → (w.alloc (.cells #[] 33)).cell? (ad.add j) = some u := by
      intro j u hu
      have hj : j < xs.length := (List.getElem?_eq_some_iff.1 hu).1
      obtain ⟨b, o, e, hc⟩ := hr (by omega)
      cases e
      rw [addr_add]
      exact pw_cell_below ((Below.refl _ _).alloc (Nat.le_refl _) _) (hc j u hu)
    clear hr
    go_enter Tryd.func109, Tryd.ntmps109
    go_wp2_with (at_builtin; refine wpList_append_own _ rfl _ _ 22 rfl w.heap.size 33 i0 _ 4 56 Tryd.underlying22 hi0 hz0 hz1 hz2 rfl (by decide) _ 0 [] rfl hmade ad n c xs rfl hl hnews h1 (by unfold maxLen; omega) (by omega) (by simp) ?_; intro v' w1 hown hgrow _)
    go_ret
    refine ⟨v', rfl, by simpa using hown, ?_⟩
    exact ((Below.refl _ _).alloc (Nat.le_refl _) _).grown hgrow (by simp) (by intro k hk; cases hk; exact Nat.le_refl _)

theorem nil31 : ∀ (w : World) (a : Option Addr) (n c n' c' : Nat), (binOp .eql 31 (.slice a n c) (.slice none n' c')).run Tryd.prog w = .ok (.bool a.isNone) w := fun w a n c n' c' => Lib.run_eql_slice_nil w _ _ a n c n' c' Tryd.underlying31
set_option maxHeartbeats 1000000 in
theorem clone_labs (A : Option Addr) (n c : Nat) (xs : List Value) (w : World) (hl : xs.length = n * 2) (h1 : ∀ u ∈ xs, u.oneCell' = true) (hr : RowC w A xs) (hs : n * 32 ≤ 140737488355328) :
    Calls Tryd.prog 104 #[.slice A n c] w (CloneP w 112 2 n xs) := by
  have q := nil31
  rcases A with _ | ad
  · have hn : n = 0 := by
      rcases Nat.eq_zero_or_pos n with h | h
      · exact h
      · obtain ⟨b, o, e, _⟩ := hr (by omega); cases e
    subst hn
    have hx : xs = [] := List.eq_nil_of_length_eq_zero (by simpa using hl)
    subst hx
    go_enter Tryd.func104, Tryd.ntmps104
    go_wp2
    go_ret
    exact ⟨_, rfl, World.ownsRow_nil _ _ _ _, Below.refl _ _⟩
  · obtain ⟨i0, hi0, hz0, hz1, hz2⟩ := info_parts info112
    have hmade := World.ownsRow_made w #[] 0 (base := w.heap.size) (e := 112) (size := 2) (Nat.le_refl _) (by unfold maxLen; omega) rfl
    have hnews : ∀ j u, xs[j]? = some u → (w.alloc (.cells #[] 112)).cell? (ad.add j) = some u := by
      intro j u hu
      have hj : j < xs.length := (List.getElem?_eq_some_iff.1 hu).1
      obtain ⟨b, o, e, hc⟩ := hr (by omega)
      cases e
      rw [addr_add]
      exact pw_cell_below ((Below.refl _ _).alloc (Nat.le_refl _) _) (hc j u hu)
    clear hr
    go_enter Tryd.func104, Tryd.ntmps104
    go_wp2_with (at_builtin; refine wpList_append_own _ rfl _ _ 31 rfl w.heap.size 112 i0 _ 2 32 Tryd.underlying31 hi0 hz0 hz1 hz2 rfl (by decide) _ 0 [] rfl hmade ad n c xs rfl hl hnews h1 (by unfold maxLen; omega) (by omega) (by simp) ?_; intro v' w1 hown hgrow _)
    go_ret
    refine ⟨v', rfl, by simpa using hown, ?_⟩
    exact ((Below.refl _ _).alloc (Nat.le_refl _) _).grown hgrow (by simp) (by intro k hk; cases hk; exact Nat.le_refl _)

theorem nil51 : ∀ (w : World) (a : Option Addr) (n c n' c' : Nat), (binOp .eql 51 (.slice a n c) (.slice none n' c')).run Tryd.prog w = .ok (.bool a.isNone) w := fun w a n c n' c' => Lib.run_eql_slice_nil w _ _ a n c n' c' Tryd.underlying51
set_option maxHeartbeats 1000000 in
theorem clone_rows (A : Option Addr) (n c : Nat) (xs : List Value) (w : World) (hl : xs.length = n * 3) (h1 : ∀ u ∈ xs, u.oneCell' = true) (hr : RowC w A xs) (hs : n * 32 ≤ 140737488355328) :
    Calls Tryd.prog 105 #[.slice A n c] w (CloneP w 71 3 n xs) := by
  have q := nil51
  rcases A with _ | ad
  · have hn : n = 0 := by
      rcases Nat.eq_zero_or_pos n with h | h
      · exact h
      · obtain ⟨b, o, e, _⟩ := hr (by omega); cases e
    subst hn
    have hx : xs = [] := List.eq_nil_of_length_eq_zero (by simpa using hl)
    subst hx
    go_enter Tryd.func105, Tryd.ntmps105
    go_wp2
    go_ret
    exact ⟨_, rfl, World.ownsRow_nil _ _ _ _, Below.refl _ _⟩
  · obtain ⟨i0, hi0, hz0, hz1, hz2⟩ := info_parts info71
    have hmade := World.ownsRow_made w #[] 0 (base := w.heap.size) (e := 71) (size := 3) (Nat.le_refl _) (by unfold maxLen; omega) rfl
    have hnews : ∀ j u, xs[j]? = some u → (w.alloc (.cells #[] 71)).cell? (ad.add j) = some u := by
      intro j u hu
      have hj : j < xs.length := (List.getElem?_eq_some_iff.1 hu).1
      obtain ⟨b, o, e, hc⟩ := hr (by omega)
      cases e
      rw [addr_add]
      exact pw_cell_below ((Below.refl _ _).alloc (Nat.le_refl _) _) (hc j u hu)
    clear hr
    go_enter Tryd.func105, Tryd.ntmps105
    go_wp2_with (at_builtin; refine wpList_append_own _ rfl _ _ 51 rfl w.heap.size 71 i0 _ 3 32 Tryd.underlying51 hi0 hz0 hz1 hz2 rfl (by decide) _ 0 [] rfl hmade ad n c xs rfl hl hnews h1 (by unfold maxLen; omega) (by omega) (by simp) ?_; intro v' w1 hown hgrow _)
    go_ret
    refine ⟨v', rfl, by simpa using hown, ?_⟩
    exact ((Below.refl _ _).alloc (Nat.le_refl _) _).grown hgrow (by simp) (by intro k hk; cases hk; exact Nat.le_refl _)
end Go.Proofs.YtojocffjajcdmaaDoor
/- record.Sort: the entries in their order, of labels of their own. -/
namespace Go.Proofs.YtojocffjajcdmaaDoor
open Go.RowKit Go.Proofs.YtojocffjajcdmaaDoorW.PrintWords Go.Proofs.YtojocffjajcdmaaDoorW.PrintLast Go.Proofs.YtojocffjajcdmaaDoorW.PrintMore PChunkAll
set_option linter.unusedVariables false
set_option linter.unusedSimpArgs false

theorem pick_lt {β : Type} [Inhabited β] {n : Nat} {R : Nat → β → Prop} (h : ∀ i, i < n → ∃ b, R i b) : ∃ f : Nat → β, ∀ i, i < n → R i (f i) := by
  refine ⟨fun i => if hi : i < n then Classical.choose (h i hi) else default, fun i hi => ?_⟩
  simp only [hi, dif_pos]
  exact Classical.choose_spec (h i hi)
theorem own_below {B : Nat} {e : TypeId} {k : Nat} {v : Value} {n : Nat} {xs : List Value} {w w' : World} (h : w.ownsRow B e k v n xs) (hb : Below w.heap.size w w') : w'.ownsRow B e k v n xs := by
  obtain ⟨h1, h2⟩ := h
  refine ⟨h1, ?_⟩
  rcases h2 with h2 | ⟨g', cap', cur, h2, h3, h4, h5⟩
  · exact .inl h2
  · refine .inr ⟨g', cap', cur, h2, h3, ?_, h5⟩
    rw [hb.block g' (Array.getElem?_eq_some_iff.1 h4).1]; exact h4
theorem own_le {B B' : Nat} {e : TypeId} {k : Nat} {v : Value} {n : Nat} {xs : List Value} {w : World} (h : w.ownsRow B e k v n xs) (hb : B' ≤ B) : w.ownsRow B' e k v n xs := by
  obtain ⟨h1, h2⟩ := h
  refine ⟨h1, ?_⟩
  rcases h2 with h2 | ⟨g', cap', cur, h2, h3, h4⟩
  · exact .inl h2
  · exact .inr ⟨g', cap', cur, h2, by omega, h4⟩
theorem bang_of (l : List Value) (i : Nat) (h : i < l.length) : l[i]! = l[i] := getElem!_pos l i h

/-- An entry as it lies: what it says, where its labels are, and its place in the beginning. -/
structure RE where
  x : S33
  A : Option Addr
  c : Nat
  tg : Nat
instance : Inhabited RE := ⟨⟨z33, none, 0, 0⟩⟩
def RE.cells (r : RE) : List Value := [.int .i64 r.x.f0, .int .i64 r.x.f1, .slice r.A r.x.f2.length r.c, .string r.x.f3]
theorem RE.cells_len (r : RE) : r.cells.length = 4 := rfl
theorem RE.cells_one (r : RE) : ∀ u ∈ r.cells, u.oneCell' = true := by
  intro u hu
  simp [RE.cells] at hu
  rcases hu with rfl | rfl | rfl | rfl <;> rfl
/-- Its labels are there. -/
def RE.ok (w : World) (r : RE) : Prop := r.x.f2.length ≤ r.c ∧ Kd.C k112 w r.A r.x.f2.length r.x.f2
theorem RE.ok.below {w w' : World} {r : RE} (h : r.ok w) (hb : Below w.heap.size w w') : r.ok w' := ⟨h.1, Kd.C_below h.2 hb⟩

/-- A row of entries taken apart. -/
theorem raw_of {w : World} {A : Option Addr} {l : List S33} (h : Kd.C k33 w A l.length l) : ∃ rs : List RE, rs.map (·.x) = l ∧ rs.map (·.tg) = List.range l.length ∧ RowC w A (rs.flatMap RE.cells) ∧ ∀ r ∈ rs, r.ok w := by
  by_cases hp : 0 < l.length
  · obtain ⟨b, o, rfl, hx⟩ := ents_at h hp
    have hex : ∀ i, i < l.length → ∃ r : RE, r.x = l.getD i z33 ∧ r.tg = i ∧ r.ok w ∧ ∀ j u, r.cells[j]? = some u → w.cell? ⟨b, o + i * 4 + j, none⟩ = some u := by
      intro i hi
      obtain ⟨A2, c2, h0, h1, h2, h3, h4, h5⟩ := hx i hi
      refine ⟨⟨l.getD i z33, A2, c2, i⟩, rfl, rfl, ⟨h4, h5⟩, fun j u hu => ?_⟩
      rcases j with _ | _ | _ | _ | j <;> simp [RE.cells] at hu <;> subst hu <;> assumption
    obtain ⟨f, hf⟩ := pick_lt hex
    have hg : ∀ i (h : i < ((List.range l.length).map f).length), ((List.range l.length).map f)[i] = f i := fun i h => by simp
    refine ⟨(List.range l.length).map f, ?_, ?_, fun hq => ⟨b, o, rfl, fun j u hu => ?_⟩, fun r hr => ?_⟩
    · apply List.ext_getElem
      · simp
      · intro i h1 h2
        simp only [List.getElem_map, List.getElem_range]
        rw [(hf i h2).1]; simp [h2]
    · apply List.ext_getElem
      · simp
      · intro i h1 h2
        simp only [List.getElem_map, List.getElem_range]
        exact (hf i (by simpa using h2)).2.1
    · have hj := (List.getElem?_eq_some_iff.1 hu).1
      rw [flat_len RE.cells 4 RE.cells_len] at hj
      have hjn : j < l.length * 4 := by simpa using hj
      have e : j = j / 4 * 4 + j % 4 := by omega
      have hi : j / 4 < ((List.range l.length).map f).length := by simp; omega
      rw [e, flat_get RE.cells 4 RE.cells_len _ _ _ hi (by omega), hg] at hu
      have := (hf (j / 4) (by omega)).2.2.2 _ _ hu
      rwa [Nat.add_assoc, ← e] at this
    · obtain ⟨i, hi, rfl⟩ := List.mem_map.1 hr
      exact (hf i (List.mem_range.1 hi)).2.2.1
  · have : l = [] := List.eq_nil_of_length_eq_zero (by omega)
    subst this
    exact ⟨[], rfl, rfl, fun hq => absurd hq (by simp), fun r hr => by cases hr⟩

/-- .. and put together. -/
theorem raw_C {w : World} {A : Option Addr} {rs : List RE} (hm : rs.length ≤ 9223372036854775807) (hr : RowC w A (rs.flatMap RE.cells)) (hk : ∀ r ∈ rs, r.ok w) : Kd.C k33 w A rs.length (rs.map (·.x)) := by
  refine ⟨by simp, hm, fun hn => ?_⟩
  obtain ⟨b, o, e, hc⟩ := hr (by rw [flat_len RE.cells 4 RE.cells_len]; omega)
  refine ⟨⟨b, o, none⟩, e, fun j p hj => ?_⟩
  have hjl : j < rs.length := by have := (List.getElem?_eq_some_iff.1 hj).1; simpa using this
  rw [List.getElem?_map, List.getElem?_eq_getElem hjl] at hj
  simp at hj
  subst hj
  have ho := hk rs[j] (List.getElem_mem hjl)
  refine ⟨rs[j].cells, rfl, k33_mk w rs[j].x ho.1 ho.2, fun i u hu => ?_⟩
  have hi : i < 4 := by have := (List.getElem?_eq_some_iff.1 hu).1; rwa [RE.cells_len] at this
  rw [addr_add]
  refine hc _ _ ?_
  rw [show k33.sz = 4 from rfl, flat_get RE.cells 4 RE.cells_len rs j i hjl hi]
  exact hu

/-! ### Their order -/
def cfE (x y : RE) : Int := cmpE x.x.f0 x.x.f1 y.x.f0 y.x.f1
def ltE (x y : S33) : Bool := decide (cmpE x.f0 x.f1 y.f0 y.f1 < 0)
def sortE (l : List S33) : List S33 := ST.srt ltE l
theorem cmpE_lt (s t s' t' : Int) : cmpE s t s' t' < 0 ↔ t < t' ∨ t = t' ∧ s < s' := by
  unfold cmpE orI cmpI
  repeat' split
  all_goals omega
theorem ltE_swo : Go.Sort.SWO ltE := by
  refine ⟨fun x => ?_, fun x y z h1 h2 => ?_, fun x y z h1 h2 => ?_⟩
  · simp only [ltE, decide_eq_false_iff_not, cmpE_lt]; omega
  · simp only [ltE, decide_eq_true_eq, cmpE_lt] at *; omega
  · simp only [ltE, decide_eq_false_iff_not, cmpE_lt] at *; omega
theorem cfE_lt (x y : RE) : ltOf cfE x y = ltE x.x y.x := rfl
theorem cfE_swo : Go.Sort.SWO (ltOf cfE) := ⟨fun x => ltE_swo.irrefl x.x, fun x y z => ltE_swo.trans x.x y.x z.x, fun x y z => ltE_swo.ntrans x.x y.x z.x⟩
theorem sortE_len (l : List S33) : (sortE l).length = l.length := ST.srt_length _ _
theorem sortE_perm (l : List S33) : (sortE l).Perm l := ST.srt_perm _ _

/-! ### A row of one's own while its labels are cloned -/
structure SoI (w : World) (g n cap : Nat) (l : List S33) (i : Nat) (rs : List RE) (wr : World) : Prop where
  len : rs.length = n
  map : rs.map (·.x) = l
  tags : rs.map (·.tg) = List.range n
  own : wr.ownsRow w.heap.size 33 4 (.slice (some ⟨g, 0, none⟩) n cap) n (rs.flatMap RE.cells)
  new : ∀ k (h : k < rs.length), k < i → wr.ownsRow (g + 1) 112 2 (.slice rs[k].A rs[k].x.f2.length rs[k].c) rs[k].x.f2.length (lcells rs[k].x.f2)
  old : ∀ k (h : k < rs.length), i ≤ k → Kd.C k112 w rs[k].A rs[k].x.f2.length rs[k].x.f2
  below : Below w.heap.size w wr
  lg : w.heap.size ≤ g
  gl : g < wr.heap.size

theorem lcells_len (ls : List S112) : (lcells ls).length = ls.length * 2 := flat_len _ 2 (fun _ => rfl) ls
theorem lcells_one (ls : List S112) : ∀ u ∈ lcells ls, u.oneCell' = true := flat_one _ (fun x u hu => by simp at hu; rcases hu with rfl | rfl <;> rfl) ls

theorem SoI.step {w wr w1 : World} {g n cap i : Nat} {l : List S33} {rs : List RE} {A2 : Option Addr} {c2 : Nat} (h : SoI w g n cap l i rs wr) (hi : i < rs.length)
    (ho : w1.ownsRow wr.heap.size 112 2 (.slice A2 rs[i].x.f2.length c2) rs[i].x.f2.length (lcells rs[i].x.f2)) (hb : Below wr.heap.size wr w1) :
    SoI w g n cap l (i + 1) (rs.set i ⟨rs[i].x, A2, c2, rs[i].tg⟩) (w1.setCell ⟨g, i * 4 + 2, none⟩ (.slice A2 rs[i].x.f2.length c2)) := by
  have hg := h.gl
  have hlen := h.len
  refine ⟨by rw [List.length_set]; exact h.len, ?_, ?_, ?_, ?_, ?_, ?_, h.lg, ?_⟩
  · rw [List.map_set, ← h.map]
    apply List.ext_getElem
    · simp
    · intro k h1 h2
      rw [List.getElem_set]
      split
      · rename_i e; subst e; simp
      · rfl
  · rw [List.map_set, ← h.tags]
    apply List.ext_getElem
    · simp
    · intro k h1 h2
      rw [List.getElem_set]
      split
      · rename_i e; subst e; simp
      · rfl
  · have h2 := (own_below h.own hb).stored (i * 4 + 2) (.slice A2 rs[i].x.f2.length c2)
    rw [flat_set RE.cells 4 RE.cells_len rs i 2 _ ⟨rs[i].x, A2, c2, rs[i].tg⟩ hi (by omega) rfl] at h2
    exact h2.1
  · intro k hk hki
    rw [List.length_set] at hk
    by_cases e : k = i
    · subst e
      simp only [List.getElem_set_self]
      exact ownsRow_setCell_below (own_le ho (by omega)) (by show g < g + 1; omega) _
    · rw [List.getElem_set_ne (by omega)]
      exact ownsRow_setCell_below (own_below (h.new k hk (by omega)) hb) (by show g < g + 1; omega) _
  · intro k hk hki
    rw [List.length_set] at hk
    rw [List.getElem_set_ne (by omega)]
    exact h.old k hk (by omega)
  · exact (below_step h.below hb).setCell (p := ⟨g, i * 4 + 2, none⟩) h.lg _
  · have := hb.size
    show g < (w1.setCell _ _).heap.size
    simp [World.setCell]
    omega
theorem SoI.cell {w wr : World} {g n cap i : Nat} {l : List S33} {rs : List RE} (h : SoI w g n cap l i rs wr) (k j : Nat) (hk : k < rs.length) (hj : j < 4) : wr.cell? ⟨g, k * 4 + j, none⟩ = (rs[k].cells)[j]? := by
  have hl := h.len
  rw [h.own.cellAt (k * 4 + j) (by omega), flat_get RE.cells 4 RE.cells_len rs k j hk hj]
theorem SoI.frz {w wr : World} {g n cap i : Nat} {l : List S33} {rs : List RE} (h : SoI w g n cap l i rs wr) (j : Nat) : wr.frozen? ⟨g, j, none⟩ = false := h.own.frozenAt j
/-- Ahead of the sort. -/
theorem SoI.sb {w wr : World} {g n cap i : Nat} {l : List S33} {rs : List RE} (h : SoI w g n cap l i rs wr) : ST.SB RE.cells 4 wr g 0 rs.toArray wr := by
  refine ST.SB.start RE.cells_len RE.cells_one ?_ h.gl
  intro j hj
  rw [Go.Sort.size_flatK] at hj
  have hl := h.len
  have hj' : j < rs.length * 4 := by simpa using hj
  have hq : j / 4 < rs.length := by omega
  have e : j = j / 4 * 4 + j % 4 := by omega
  rw [Nat.zero_add, Go.Sort.get_flatK _ _ _ j hj]
  refine ⟨?_, h.frz j⟩
  conv => lhs; rw [e]
  rw [h.cell (j / 4) (j % 4) hq (by omega)]
  have e2 : rs.toArray[j / 4]! = rs[j / 4] := by rw [getElem!_pos rs.toArray (j / 4) (by simpa using hq)]; simp
  rw [e2]
  have h4 : j % 4 < (rs[j / 4].cells).length := by rw [RE.cells_len]; omega
  rw [List.getElem?_eq_getElem h4, bang_of _ _ h4]; rfl
theorem SoI.asc {w wr : World} {g n cap i : Nat} {l : List S33} {rs : List RE} (h : SoI w g n cap l i rs wr) : ST.Asc RE.tg 0 rs.toArray.size rs.toArray := by
  intro p q _ hpq hq
  have hq' : q < rs.length := by simpa using hq
  have e : ∀ k (hk : k < rs.length), rs.toArray[k]!.tg = k := by
    intro k hk
    rw [getElem!_pos rs.toArray k (by simpa using hk)]
    have h1 : (rs.map (·.tg))[k]'(by simpa using hk) = k := by simp [h.tags]
    simpa using h1
  rw [e p (by omega), e q hq']; exact hpq

/-- Behind the sort. -/
theorem SoI.sorted {w wr W : World} {g n cap : Nat} {l : List S33} {rs : List RE} {d' : Array RE} (h : SoI w g n cap l n rs wr) (hn : n ≤ 9223372036854775807) (hM : ST.Mrg cfE RE.tg 0 rs.toArray.size rs.toArray d') (hS : ST.SB RE.cells 4 wr g 0 d' W) :
    Kd.C k33 W (some ⟨g, 0, none⟩) n (sortE l) ∧ Below w.heap.size w W := by
  have hu := ST.srt_unique cfE_swo h.asc hM
  have hx : d'.toList.map (·.x) = sortE l := by
    rw [hu, ST.srt_map (·.x) (ltOf cfE) ltE (fun x y => rfl), ← h.map]; simp [sortE]
  have hlen : d'.toList.length = n := by rw [hu, ST.srt_length]; simpa using h.len
  have hmem : ∀ r ∈ d'.toList, r ∈ rs := fun r hr => by
    rw [hu] at hr
    simpa using (ST.srt_perm _ _).mem_iff.1 hr
  have hlg := h.lg
  have hgl := h.gl
  constructor
  · rw [← hx, ← hlen]
    refine raw_C (by omega) (fun hp => ⟨g, 0, rfl, fun j u hu => ?_⟩) (fun r hr => ?_)
    · have hj := (List.getElem?_eq_some_iff.1 hu).1
      rw [flat_len RE.cells 4 RE.cells_len] at hj
      have e : j = j / 4 * 4 + j % 4 := by omega
      have hq : j / 4 < d'.toList.length := by omega
      rw [e, flat_get RE.cells 4 RE.cells_len _ _ _ hq (by omega)] at hu
      have h1 := (hS.holds j (by rw [Go.Sort.size_flatK]; simpa using hj)).1
      rw [h1, Go.Sort.get_flatK _ _ _ j (by simpa using hj)]
      have e2 : d'[j / 4]! = d'.toList[j / 4] := by rw [getElem!_pos d' (j / 4) (by simpa using hq)]; simp
      rw [e2]
      have h4 : j % 4 < (d'.toList[j / 4].cells).length := by rw [RE.cells_len]; omega
      rw [List.getElem?_eq_getElem h4] at hu
      rw [bang_of _ _ h4]
      exact hu
    · obtain ⟨k, hk, rfl⟩ := List.getElem_of_mem (hmem r hr)
      have ho := h.new k hk (by have := h.len; omega)
      have hoW : W.ownsRow (g + 1) 112 2 (.slice rs[k].A rs[k].x.f2.length rs[k].c) rs[k].x.f2.length (lcells rs[k].x.f2) := by
        obtain ⟨h1, h2⟩ := ho
        refine ⟨h1, ?_⟩
        rcases h2 with h2 | ⟨g', cap', cur, h2, h3, h4, h5⟩
        · exact .inl h2
        · refine .inr ⟨g', cap', cur, h2, h3, ?_, h5⟩
          have hlt : g' < wr.heap.size := (Array.getElem?_eq_some_iff.1 h4).1
          rw [hS.far g' hlt (by omega)]; exact h4
      refine ⟨?_, ?_⟩
      · obtain ⟨h1, h2⟩ := hoW
        rcases h2 with ⟨h2, h3⟩ | ⟨g', cap', cur, h2, h3, h4, h5, h6⟩
        · rw [h3]; exact Nat.zero_le _
        · injection h2 with _ _ h2; rw [h2]; exact h5
      · have hm : rs[k].x.f2.length ≤ 9223372036854775807 := by
          obtain ⟨h1, h2⟩ := hoW
          rcases h2 with ⟨h2, h3⟩ | ⟨g', cap', cur, h2, h3, h4, h5, h6, h7⟩
          · rw [h3]; exact Nat.zero_le _
          · have : maxLen = 9223372036854775807 := rfl
            omega
        exact C_lab hm (own_rowC hoW)
  · refine ⟨hS.os.trans h.below.os, hS.tape.trans h.below.tape, hS.output.trans h.below.output, Nat.le_trans h.below.size hS.size, fun k hk => ?_⟩
    rw [hS.far k (by have := h.below.size; omega) (by omega)]
    exact h.below.block k hk

/-- How entries are compared. -/
theorem cmp_order (w0 : World) (blk off n : Nat) : ST.CmpB Tryd.prog 110 #[.agg #[]] #[] RE.cells 4 cfE w0 blk off n := by
  intro dk W hS hs x y
  exact order_any x.x.f0 x.x.f1 y.x.f0 y.x.f1 _ _ _ _ #[] W
end Go.Proofs.YtojocffjajcdmaaDoor
/- record.Sort: walked. -/
namespace Go.Proofs.YtojocffjajcdmaaDoor
open Go.RowKit Go.Proofs.YtojocffjajcdmaaDoorW.PrintWords Go.Proofs.YtojocffjajcdmaaDoorW.PrintLast Go.Proofs.YtojocffjajcdmaaDoorW.PrintMore PChunkAll
set_option linter.unusedVariables false
set_option linter.unusedSimpArgs false

theorem ins_nil (A : Option Addr) (c : Nat) (f : Value) (w : World) : Calls Tryd.prog 176 #[.slice A 0 c, .int .i64 0, .int .i64 0, f] w fun e w' => e = .returned (.tuple #[]) ∧ w' = w := by
  go_enter Tryd.func176, Tryd.ntmps176
  go_wp2
  refine wp_loop_rounds 1 ?_
  rw [rounds_succ]
  go_wp2
  go_end0
  exact ⟨rfl, rfl⟩
theorem stable_nil (A : Option Addr) (c : Nat) (f : Value) (w : World) : Calls Tryd.prog 150 #[.slice A 0 c, .int .i64 0, f] w fun e w' => e = .returned (.tuple #[]) ∧ w' = w := by
  go_enter Tryd.func150, Tryd.ntmps150
  go_wp2
  refine wp_loop_rounds 1 ?_
  rw [rounds_succ]
  go_wp2_with (go_at_call 176; (with_reducible refine (ins_nil _ _ _ _).mono ?_); rintro e w1 ⟨rfl, rfl⟩)
  refine wp_loop_rounds 1 ?_
  rw [rounds_succ]
  go_wp2
  go_end0
  exact ⟨rfl, rfl⟩
theorem sort_nil (A : Option Addr) (c : Nat) (f : Value) (w : World) : Calls Tryd.prog 111 #[.slice A 0 c, f] w fun e w' => e = .returned (.tuple #[]) ∧ w' = w := by
  go_enter Tryd.func111, Tryd.ntmps111
  go_wp2_with (go_at_call 150; (with_reducible refine (stable_nil _ _ _ _).mono ?_); rintro e w1 ⟨rfl, rfl⟩)
  go_end0
  exact ⟨rfl, rfl⟩

/-- What record.Sort answers. -/
def SortP (w : World) (l : List S33) (e : Ending) (w' : World) : Prop := ∃ A' c', e = .returned (.slice A' l.length c') ∧ l.length ≤ c' ∧ Kd.C k33 w' A' l.length (sortE l) ∧ Below w.heap.size w w'

set_option maxHeartbeats 8000000 in
set_option maxRecDepth 100000 in
theorem rsort_any (A : Option Addr) (c : Nat) (l : List S33) (w : World) (hr : Kd.C k33 w A l.length l) (hE : EntsOk l) : Calls Tryd.prog 49 #[.slice A l.length c] w (SortP w l) := by
  obtain ⟨rs, hmap, htag, hrow, hok⟩ := raw_of hr
  have hlen : rs.length = l.length := by rw [← hmap]; simp
  have hcl := clone_ents A l.length c (rs.flatMap RE.cells) w (by rw [flat_len RE.cells 4 RE.cells_len, hlen]) (flat_one _ RE.cells_one rs) hrow (by have := hE.1; omega)
  have HL := Lib.hid hlen
  have HM := Lib.hid hmap
  have HT := Lib.hid htag
  have HOK := Lib.hid hok
  have HE := Lib.hid hE
  unfold SortP
  clear hlen hmap htag hrow hok hr hE
  by_cases hn : l.length = 0
  · have hl : l = [] := List.eq_nil_of_length_eq_zero hn
    subst hl
    have hrs : rs = [] := List.eq_nil_of_length_eq_zero HL.out
    subst hrs
    simp only [List.length_nil] at hcl ⊢
    clear hn HL HM HT HOK HE
    go_enter Tryd.func49, Tryd.ntmps49
    go_upto_region 2 with (go_at_call 109; (with_reducible refine hcl.mono ?_); rintro e w1 ⟨v, rfl, ho, hb⟩)
    have hv : ∃ A1 c1, v = .slice A1 0 c1 := by
      obtain ⟨_, h | ⟨g, cap, _, h, _⟩⟩ := ho
      · exact ⟨none, 0, h.1⟩
      · exact ⟨_, _, h⟩
    obtain ⟨A1, c1, rfl⟩ := hv
    go_wp2
    refine wp_loop_rounds 1 ?_
    rw [rounds_succ]
    go_wp2_with (go_at_call 111; (with_reducible refine (sort_nil _ _ _ _).mono ?_); rintro e w2 ⟨rfl, rfl⟩)
    go_ret
    exact ⟨A1, c1, rfl, Nat.zero_le _, ⟨rfl, by decide, fun h => absurd h (Nat.lt_irrefl 0)⟩, hb⟩
  · obtain ⟨n, hnl⟩ : ∃ n, n = l.length := ⟨_, rfl⟩
    rw [← hnl] at hcl hn HL HT ⊢
    have HNL := Lib.hid hnl
    have hmx : n ≤ 2513169434916 := by rw [hnl]; exact HE.out.1
    clear hnl
    go_enter Tryd.func49, Tryd.ntmps49
    go_upto_region 2 with (go_at_call 109; (with_reducible refine hcl.mono ?_); rintro e w1 ⟨v, rfl, ho, hb⟩)
    have hv : ∃ g cap, v = .slice (some ⟨g, 0, none⟩) n cap ∧ w.heap.size ≤ g ∧ g < w1.heap.size := by
      obtain ⟨_, h | ⟨g, cap, cur, h, h2, h3, _⟩⟩ := ho
      · exact absurd h.2 hn
      · exact ⟨g, cap, h, h2, (Array.getElem?_eq_some_iff.1 h3).1⟩
    obtain ⟨g, cap, rfl, hg1, hg2⟩ := hv
    have S0 : Hid (SoI w g n cap l 0 rs w1) := ⟨HL.out, HM.out, HT.out, ho, fun k _ h => absurd h (Nat.not_lt_zero _), fun k hk _ => (HOK.out _ (List.getElem_mem hk)).2, hb, hg1, hg2⟩
    clear ho hb hcl hg1 hg2 HL HM HT HOK
    go_wp2
    go_loopg [10] n (fun kx v10 wr => ∃ (i : Nat) (rs : List RE), v10 = .int .i64 i ∧ i ≤ n ∧ n - i ≤ kx ∧ Hid (SoI w g n cap l i rs wr))
    case atStart => exact ⟨0, rs, rfl, Nat.zero_le _, by omega, S0⟩
    case round =>
      clear S0
      obtain ⟨i, rs, rfl, hin, hkx, S1⟩ := hrel
      by_cases hlt : i < n
      · have hltz : (i : Int) < (n : Int) := by omega
        have hir : i < rs.length := by rw [S1.out.len]; exact hlt
        have c2 := S1.out.cell i 2 hir (by omega)
        have f2 := S1.out.frz (i * 4 + 2)
        have hco := Kd.C_below (S1.out.old i hir (Nat.le_refl _)) S1.out.below
        have hlb : rs[i].x.f2.length < 4398046511104 := by
          have h := HE.out.2.2 i (by rw [← HNL.out]; exact hlt)
          have e : l.getD i z33 = rs[i].x := by
            have := S1.out.map
            subst this
            simp [hir]
          rwa [e] at h
        have hc := clone_labs rs[i].A rs[i].x.f2.length rs[i].c (lcells rs[i].x.f2) wr (lcells_len _) (lcells_one _) (lab_C hco) (by omega)
        simp only [RE.cells, List.getElem?_cons_succ, List.getElem?_cons_zero] at c2
        have hst := fun A2 c2 w1 ho hb => S1.out.step (A2 := A2) (c2 := c2) (w1 := w1) hir ho hb
        have HST := Lib.hid hst
        have HGL := Lib.hid S1.out.gl
        clear hst hco hlb
        generalize rs[i].x.f2.length = m at *
        generalize rs[i].A = A1 at *
        generalize rs[i].c = c1 at *
        go_wp2_with (go_at_call 104; (with_reducible refine hc.mono ?_); rintro e w2 ⟨v2, rfl, ho2, hb2⟩; have hv2 : ∃ A2 c2, v2 = .slice A2 m c2 := (by obtain ⟨_, h | ⟨g, cap, _, h, _⟩⟩ := ho2; exact ⟨none, 0, by rw [h.1, h.2]⟩; exact ⟨_, _, h⟩); obtain ⟨A2, c2', rfl⟩ := hv2; have fz := hb2.frozen (show (⟨g, i * 4 + 2, none⟩ : Addr).block < wr.heap.size from HGL.out); rw [f2] at fz; have cz := pw_cell_below hb2 c2; have HO := Lib.hid ho2; have HB := Lib.hid hb2; clear ho2 hb2 c2 f2)
        go_roundg (n - (i + 1))
        case measure => omega
        case rel => exact ⟨i + 1, _, by go_num, by omega, Nat.le_refl _, HST.out A2 c2' w2 HO.out HB.out⟩
      · have hltz : ¬ (i : Int) < (n : Int) := by omega
        obtain rfl : i = n := by omega
        have hlr := S1.out.len
        have hsz : rs.toArray.size = i := by simpa using hlr
        have hc := ST.sort_calls RE.cells cfE RE.tg cfE_swo 110 #[.agg #[]] #[] g 0 cap rs.toArray wr wr (fun args w => enters_of Tryd.func110 (by kernel_rfl) rfl args w) (cmp_order _ _ _ _) S1.out.sb S1.out.asc (by omega)
        rw [hsz] at hc
        clear hsz hlr
        go_wp2_with (go_at_call 111; (with_reducible refine hc.mono ?_); rintro e w2 ⟨rfl, d', hM, hS⟩)
        go_ret
        have hfin := S1.out.sorted (by omega) (by have := S1.out.len; simpa [this] using hM) hS
        exact ⟨_, cap, rfl, by have := S1.out.own; obtain ⟨_, h | ⟨g, cap, cur, h, h2, h3, h4, _⟩⟩ := this; exact absurd h.2 hn; (injection h with _ _ h; omega), hfin.1, hfin.2⟩
end Go.Proofs.YtojocffjajcdmaaDoor
