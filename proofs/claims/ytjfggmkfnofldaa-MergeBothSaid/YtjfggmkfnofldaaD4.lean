import Derived.Test.YtjfggmkfnofldaaD3
import Derived.Laws.AppendOwnNone
import Derived.Deep.DeepMust
namespace Go.Proofs.Ytjfggmkfnofldaa
open Go.RowKit
set_option linter.unusedVariables false

set_option maxHeartbeats 1000000 in
theorem own47 (A : Option Addr) (n c : Nat) (xs : List Value) (w : World) (hl : xs.length = n * 2) (h1 : ∀ u ∈ xs, u.oneCell' = true) (hr : RowCells w A xs) (hA : A = none → c = 0) (hs : n * 32 ≤ 140737488355328) :
    Calls Try.prog 47 #[.slice A n c] w (ClonePost w 55 2 n xs) := by
  obtain ⟨i0, hi0, hz0, hz1, hz2⟩ := info_parts info55
  have hmade := World.ownsRow_made w #[] 0 (base := w.heap.size) (e := 55) (size := 2) (Nat.le_refl _) (by unfold maxLen; omega) rfl
  have hbel : Below w.heap.size w (w.alloc (.cells #[] 55)) := (Below.refl _ _).alloc (Nat.le_refl _) _
  rcases A with _ | ad
  · have hn : n = 0 := by
      rcases Nat.eq_zero_or_pos n with h | h
      · exact h
      · obtain ⟨b, o, e, _⟩ := hr (by omega); cases e
    subst hn
    have hx : xs = [] := List.eq_nil_of_length_eq_zero (by simpa using hl)
    subst hx
    obtain rfl := hA rfl
    have HM := Lib.hid hmade; clear hmade
    go_enter Try.func47, Try.ntmps47
    go_wp2_with (at_builtin; refine wpList_append_own_none rfl _ _ 32 rfl w.heap.size 55 i0 2 Try.underlying32 hi0 _ 0 [] rfl HM.out rfl ?_)
    go_ret
    exact ⟨_, rfl, HM.out, hbel⟩
  · have hnews : ∀ j u, xs[j]? = some u → (w.alloc (.cells #[] 55)).cell? (ad.add j) = some u := by
      intro j u hu
      have hj : j < xs.length := (List.getElem?_eq_some_iff.1 hu).1
      obtain ⟨b, o, e, hc⟩ := hr (by omega)
      cases e
      rw [addr_add]
      exact keepc hbel (hc j u hu)
    clear hr
    go_enter Try.func47, Try.ntmps47
    go_wp2_with (at_builtin; refine wpList_append_own _ rfl _ _ 32 rfl w.heap.size 55 i0 _ 2 32 Try.underlying32 hi0 hz0 hz1 hz2 rfl (by decide) _ 0 [] rfl hmade ad n c xs rfl hl hnews h1 (by unfold maxLen; omega) (by omega) (by simp) ?_; intro v' w1 hown hgrow _)
    go_ret
    refine ⟨v', rfl, by simpa using hown, ?_⟩
    exact hbel.grown hgrow (by simp) (by intro k hk; cases hk; exact Nat.le_refl _)

/-- An entry whose labels lie in memory of the call's own. -/
structure OwnEnt (w : World) (base : Nat) (o : Ent) (a : AEnt) : Prop where
  s : o.s = a.s
  t : o.t = a.t
  x : o.x = a.x
  n : o.n = a.ls.length
  sz : o.n * 32 ≤ 140737488355328
  labs : w.ownsRow base 55 2 (.slice o.A o.n o.c) o.n (lcells a.ls)
theorem OwnEnt.lab {w : World} {base : Nat} {o : Ent} {a : AEnt} (h : OwnEnt w base o a) : LabIs w o a.ls := by
  obtain ⟨_, _, _, hn, hsz, ho⟩ := h
  rcases ho.2 with ⟨hv, h0⟩ | ⟨g, cap, cur, hv, hb, hg, hc, hm, hs, ht⟩
  · injection hv with h1 h2 h3
    refine ⟨fun hp => ?_, hn.symm, ⟨by omega, fun _ => h3⟩, hsz⟩
    rw [lcells_length] at hp; omega
  · injection hv with h1 h2 h3
    refine ⟨fun hp => ⟨g, 0, h1, fun j u hu => ?_⟩, hn.symm, ⟨by omega, fun e => by rw [h1] at e; cases e⟩, hsz⟩
    have := ho.cells (g := g) (by rw [h1]; rfl) j u hu
    rwa [addr_add] at this
theorem OwnEnt.ent {w : World} {base : Nat} {o : Ent} {a : AEnt} (h : OwnEnt w base o a) : EntA w o a := ⟨h.s, h.t, h.x, h.lab⟩
theorem OwnEnt.keep {w w' : World} {F : Nat → Prop} {base : Nat} {o : Ent} {a : AEnt} (h : OwnEnt w base o a) (k : KeepF w w' F) (hF : ∀ q cs, base ≤ q → w.heap[q]? = some (.cells cs 55 (0, 0)) → ¬ F q) : OwnEnt w' base o a := by
  refine ⟨h.s, h.t, h.x, h.n, h.sz, ownsRow_keepF h.labs k fun q hq => ?_⟩
  rcases h.labs.2 with ⟨hv, _⟩ | ⟨g, cap, cur, hv, hb, hg, _⟩
  · rw [hv] at hq; cases hq
  · rw [hv] at hq
    cases hq
    exact hF _ _ hb hg
/-- A row of entries of the call's own. -/
structure OwnRowA (w : World) (base : Nat) (v : Value) (os : List Ent) (xs : List AEnt) : Prop where
  own : w.ownsRow base 34 4 v os.length (ecells os)
  len : os.length = xs.length
  ents : ∀ i (h : i < os.length) (h' : i < xs.length), OwnEnt w base os[i] xs[i]
theorem own_nilcap {w : World} {base n c : Nat} {A : Option Addr} {e : TypeId} {size : Nat} {xs : List Value} (h : w.ownsRow base e size (.slice A n c) n xs) : A = none → c = 0 := by
  rintro rfl
  rcases h.2 with ⟨hv, h0⟩ | ⟨g, cap, cur, hv, _⟩
  · injection hv
  · injection hv with h1; cases h1
theorem own_rowCells {w : World} {base n c : Nat} {A : Option Addr} {e : TypeId} {size : Nat} {xs : List Value} (h : w.ownsRow base e size (.slice A n c) n xs) : RowCells w A xs := fun hp => by
  rcases h.2 with ⟨hv, h0⟩ | ⟨g, cap, cur, hv, hb, hg, hc, hm, hs, ht⟩
  · have := h.1; subst h0; simp at this; subst this; simp at hp
  · injection hv with h1 h2 h3
    refine ⟨g, 0, h1, fun j u hu => ?_⟩
    have := h.cells (g := g) (by rw [h1]; rfl) j u hu
    rwa [addr_add] at this
theorem OwnRowA.rowA {w : World} {base n c : Nat} {A : Option Addr} {os : List Ent} {xs : List AEnt} (h : OwnRowA w base (.slice A n c) os xs) : n = os.length ∧ RowA w A os xs ∧ (A = none → c = 0) := by
  have hn : n = os.length := by
    rcases h.own.2 with ⟨hv, h0⟩ | ⟨g, cap, cur, hv, _⟩
    · injection hv with _ h2; omega
    · injection hv
  subst hn
  exact ⟨rfl, ⟨own_rowCells h.own, h.len, fun i h1 h2 => (h.ents i h1 h2).ent⟩, own_nilcap h.own⟩
theorem OwnRowA.keep {w w' : World} {F : Nat → Prop} {base : Nat} {v : Value} {os : List Ent} {xs : List AEnt} (h : OwnRowA w base v os xs) (k : KeepF w w' F) (hF : ∀ q cs t, base ≤ q → w.heap[q]? = some (.cells cs t (0, 0)) → t = 34 ∨ t = 55 → ¬ F q) : OwnRowA w' base v os xs := by
  refine ⟨ownsRow_keepF h.own k fun q hq => ?_, h.len, fun i h1 h2 => (h.ents i h1 h2).keep k fun q cs hb hq => hF q cs 55 hb hq (.inr rfl)⟩
  rcases h.own.2 with ⟨hv, _⟩ | ⟨g, cap, cur, hv, hb, hg, _⟩
  · rw [hv] at hq; cases hq
  · rw [hv] at hq
    cases hq
    exact hF _ _ 34 hb hg (.inl rfl)
theorem OwnRowA.below {w w' : World} {base : Nat} {v : Value} {os : List Ent} {xs : List AEnt} (h : OwnRowA w base v os xs) (hb : Below w.heap.size w w') : OwnRowA w' base v os xs :=
  h.keep (KeepF.of_below hb (fun _ => False)) (fun _ _ _ _ _ _ h => h)
theorem OwnEnt.lower {w : World} {base b : Nat} {o : Ent} {a : AEnt} (h : OwnEnt w base o a) (hb : b ≤ base) : OwnEnt w b o a := ⟨h.s, h.t, h.x, h.n, h.sz, ownsRow_lower h.labs hb⟩
theorem OwnRowA.lower {w : World} {base b : Nat} {v : Value} {os : List Ent} {xs : List AEnt} (h : OwnRowA w base v os xs) (hb : b ≤ base) : OwnRowA w b v os xs := ⟨ownsRow_lower h.own hb, h.len, fun i h1 h2 => (h.ents i h1 h2).lower hb⟩

def OwnPost (w : World) (e : Ent) (a : AEnt) (r : Ending) (w' : World) : Prop :=
  ∃ Au cu, r = .returned (.agg #[.int .i64 e.s, .int .i64 e.t, .slice Au e.n cu, .string e.x]) ∧ OwnEnt w' w.heap.size ⟨e.s, e.t, Au, e.n, cu, e.x⟩ a ∧ Below w.heap.size w w'

theorem res42 (W : World) (b : Nat) (tmps : Array Value) (c0 c1 c2 c3 : Value) (h : Blk W b #[c0, c1, c2, c3] 34) (h2 : tmps[2]?.getD undef = .pointer (some ⟨b, 0, none⟩)) :
    (results Try.f42 tmps).run Try.prog W = .ok (.agg #[c0, c1, c2, c3]) W := by
  have k0 : W.cell? ⟨b, 0, none⟩ = some c0 := h.cell 0 _ rfl
  have k1 : W.cell? ⟨b, 1, none⟩ = some c1 := h.cell 1 _ rfl
  have k2 : W.cell? ⟨b, 2, none⟩ = some c2 := h.cell 2 _ rfl
  have k3 : W.cell? ⟨b, 3, none⟩ = some c3 := h.cell 3 _ rfl
  simp [results, Try.results42, go_sem, k0, k1, k2, k3, h2]

theorem own42_post {w w1 : World} {e : Ent} {a : AEnt} {Au : Option Addr} {cu B : Nat} (ha : EntA w e a) (hu : w1.ownsRow B 55 2 (.slice Au e.n cu) e.n (lcells a.ls)) (hbw : Below w.heap.size w w1) (hB : w.heap.size + 2 ≤ B) :
    OwnPost w e a (.returned (.agg #[.int .i64 e.s, .int .i64 e.t, .slice Au e.n cu, .string e.x])) (fin6 w1 w.heap.size (w.heap.size + 1) e (.slice Au e.n cu)) := by
  have hk := fin6_keep w1 w.heap.size (w.heap.size + 1) e (.slice Au e.n cu)
  refine ⟨Au, cu, rfl, ⟨ha.s, ha.t, ha.x, ha.ls.2.1.symm, ha.ls.2.2.2, ownsRow_lower (ownsRow_keepF hu hk ?_) (by omega)⟩, hk.toBelow hbw (by rintro q (rfl | rfl) <;> omega)⟩
  intro q hq
  have := (hu.lt q hq).1
  rintro (e | e) <;> omega

theorem all29_inv {w wr w2 w9 : World} {os : List Ent} {xs : List AEnt} {x : AEnt} {ex : Ent} {Ao Au : Option Addr} {co cu : Nat} {v9 : Value} (ho : OwnRowA w2 w.heap.size (.slice Ao os.length co) os xs) (hoe : OwnEnt w2 wr.heap.size ⟨ex.s, ex.t, Au, ex.n, cu, ex.x⟩ x)
    (hb : Below w.heap.size w wr) (hb2 : Below wr.heap.size wr w2) (hown9 : w9.ownsRow w.heap.size 34 4 v9 (os.length + 1) (ecells os ++ [.int .i64 ex.s, .int .i64 ex.t, .slice Au ex.n cu, .string ex.x]))
    (hgrow9 : (w2.alloc (.cells #[.int .i64 ex.s, .int .i64 ex.t, .slice Au ex.n cu, .string ex.x] 34)).grownBy w9 (Value.ownBlock (.slice Ao os.length co))) :
    OwnRowA w9 w.heap.size v9 (os ++ [⟨ex.s, ex.t, Au, ex.n, cu, ex.x⟩]) (xs ++ [x]) ∧ Below w.heap.size w w9 := by
  have hkA : KeepF w2 w9 (fun k => some k = Value.ownBlock (.slice Ao os.length co)) :=
    ((KeepF.of_below ((Below.refl w2.heap.size w2).alloc (Nat.le_refl _) (.cells #[.int .i64 ex.s, .int .i64 ex.t, .slice Au ex.n cu, .string ex.x] 34)) _).trans (KeepF.of_grown hgrow9) (fun q h => .inl h))
  have hty : ∀ q, some q = Value.ownBlock (.slice Ao os.length co) → w.heap.size ≤ q ∧ ∃ cs, w2.heap[q]? = some (.cells cs 34 (0, 0)) := by
    intro q hq
    rcases ho.own.2 with ⟨hv', _⟩ | ⟨g, cap, cur, hv', hb', hg, _⟩
    · rw [hv'] at hq; cases hq
    · rw [hv'] at hq; cases hq; exact ⟨hb', cur, hg⟩
  have hk55 : ∀ B q cs, B ≤ q → w2.heap[q]? = some (.cells cs 55 (0, 0)) → ¬ (some q = Value.ownBlock (.slice Ao os.length co)) := by
    intro B q cs _ hq e
    obtain ⟨_, cs', hc⟩ := hty q e
    rw [hq] at hc
    injection hc with hc
    injection hc with _ hc
    exact absurd hc (by decide)
  refine ⟨⟨?_, by simp [ho.len], fun i h1 h2 => ?_⟩, hkA.toBelow (thenB hb hb2) (fun q hq => (hty q hq).1)⟩
  · have e : ecells (os ++ [(⟨ex.s, ex.t, Au, ex.n, cu, ex.x⟩ : Ent)]) = ecells os ++ [.int .i64 ex.s, .int .i64 ex.t, .slice Au ex.n cu, .string ex.x] := by simp [ecells]
    rw [e, List.length_append]
    exact hown9
  · rcases Nat.lt_or_ge i os.length with hi | hi
    · have hi' : i < xs.length := by rw [← ho.len]; exact hi
      rw [List.getElem_append_left hi, List.getElem_append_left hi']
      exact (ho.ents i hi hi').keep hkA (hk55 _)
    · have hi2 : i = os.length := by simp at h1; omega
      subst hi2
      have e1 : (os ++ [(⟨ex.s, ex.t, Au, ex.n, cu, ex.x⟩ : Ent)])[os.length] = ⟨ex.s, ex.t, Au, ex.n, cu, ex.x⟩ := by simp
      have e2 : (xs ++ [x])[os.length] = x := by simp [ho.len]
      rw [e1, e2]
      exact (hoe.lower hb.size).keep hkA (hk55 _)

set_option maxHeartbeats 1000000 in
theorem own42 (e : Ent) (a : AEnt) (w : World) (ha : EntA w e a) :
    Calls Try.prog 42 #[.agg #[.int .i64 e.s, .int .i64 e.t, .slice e.A e.n e.c, .string e.x]] w (OwnPost w e a) := by
  have hbB : Below w.heap.size w ((w.alloc (.cells #[.int .i64 e.s, .int .i64 e.t, .slice e.A e.n e.c, .string e.x] 34)).alloc (.cells #[.int .i64 0, .int .i64 0, .slice none 0 0, .string ⟨#[]⟩] 34)) := ((Below.refl _ _).alloc (Nat.le_refl _) _).alloc (by simp) _
  have B1 := (Blk.new w #[.int .i64 e.s, .int .i64 e.t, .slice e.A e.n e.c, .string e.x] 34 _ rfl).alloc (.cells #[.int .i64 0, .int .i64 0, .slice none 0 0, .string ⟨#[]⟩] 34)
  have B2 := Blk.new (w.alloc (.cells #[.int .i64 e.s, .int .i64 e.t, .slice e.A e.n e.c, .string e.x] 34)) #[.int .i64 0, .int .i64 0, .slice none 0 0, .string ⟨#[]⟩] 34 (w.heap.size + 1) (by simp)
  have hsz : ((w.alloc (.cells #[.int .i64 e.s, .int .i64 e.t, .slice e.A e.n e.c, .string e.x] 34)).alloc (.cells #[.int .i64 0, .int .i64 0, .slice none 0 0, .string ⟨#[]⟩] 34)).heap.size = w.heap.size + 2 := by simp
  have HSZ := Lib.hid hsz; clear hsz
  go_enter Try.func42, Try.ntmps42
  go_wp2_with fail
  refine (own47 e.A e.n e.c (lcells a.ls) _ (by rw [lcells_length, ha.ls.2.1]) (lcells_one _) (ha.ls.1.below hbB) ha.ls.2.2.1.2 ha.ls.2.2.2).mono ?_
  rintro r w1 ⟨u, rfl, hu, hb1⟩
  obtain ⟨Au, cu, rfl⟩ := own_sl hu
  have b1 := B1.below hb1 B1.lt
  have b2 := B2.below hb1 B2.lt
  have hbw : Below w.heap.size w w1 := thenB hbB hb1
  have hz := hb1.size
  rw [HSZ.out] at hz
  clear B1 B2
  have y0 : w1.cell? ⟨w.heap.size, 0, none⟩ = some (.int .i64 e.s) := b1.cell 0 _ rfl
  have y1 : w1.cell? ⟨w.heap.size, 1, none⟩ = some (.int .i64 e.t) := b1.cell 1 _ rfl
  have y2 : w1.cell? ⟨w.heap.size, 2, none⟩ = some (.slice e.A e.n e.c) := b1.cell 2 _ rfl
  have y3 : w1.cell? ⟨w.heap.size, 3, none⟩ = some (.string e.x) := b1.cell 3 _ rfl
  have yf := b1.frozen 2
  have r0' : w1.cell? ⟨w.heap.size + 1, 0, none⟩ = some (.int .i64 0) := b2.cell 0 _ rfl
  have r1' : w1.cell? ⟨w.heap.size + 1, 1, none⟩ = some (.int .i64 0) := b2.cell 1 _ rfl
  have r2' : w1.cell? ⟨w.heap.size + 1, 2, none⟩ = some (.slice none 0 0) := b2.cell 2 _ rfl
  have r3' : w1.cell? ⟨w.heap.size + 1, 3, none⟩ = some (.string ⟨#[]⟩) := b2.cell 3 _ rfl
  have g0 := b2.frozen 0
  have g1' := b2.frozen 1
  have g2 := b2.frozen 2
  have g3 := b2.frozen 3
  have hll : w.heap.size < w1.heap.size := by omega
  have hlm : w.heap.size + 1 < w1.heap.size := by omega
  go_wp2_with fail
  have hB := ((((b2.far ⟨w.heap.size, 2, none⟩ (.slice Au e.n cu) (by simp)).set 0 (.int .i64 e.s)).set 1 (.int .i64 e.t)).set 2 (.slice Au e.n cu)).set 3 (.string e.x)
  refine bodyPost_ret (v := .agg #[.int .i64 e.s, .int .i64 e.t, .slice Au e.n cu, .string e.x]) (res42 _ (w.heap.size + 1) _ _ _ _ _ hB rfl) rfl ?_
  exact own42_post ha hu hbw (by rw [HSZ.out]; omega)

def AllORel (w : World) (xs : List AEnt) (v4 v3 : Value) (wr : World) : Prop :=
  ∃ (k : Nat) (os : List Ent), v4 = .int .i64 k ∧ k ≤ xs.length ∧ OwnRowA wr w.heap.size v3 os (xs.take k) ∧ Below w.heap.size w wr
def AllOPost (w : World) (xs : List AEnt) (r : Ending) (w' : World) : Prop :=
  ∃ v os, r = .returned v ∧ OwnRowA w' w.heap.size v os xs ∧ Below w.heap.size w w'

set_option maxHeartbeats 1000000 in
theorem all29 (A : Option Addr) (c : Nat) (es : List Ent) (xs : List AEnt) (w : World) (hr : RowA w A es xs) (hs : es.length * 56 ≤ 140737488355328) :
    Calls Try.prog 29 #[.slice A es.length c] w (AllOPost w xs) := by
  obtain ⟨i0, hi0, hz0, hz1, hz2⟩ := info_parts info34
  have HLA := Lib.hid hr.len
  go_enter Try.func29, Try.ntmps29
  go_wp2
  go_loopw [4, 3] (fun v4 v3 wr => AllORel w xs v4 v3 wr) (fun v4 _ _ => es.length - (intOf v4).toNat)
  case atStart => exact ⟨0, [], rfl, Nat.zero_le _, ⟨World.ownsRow_nil _ _ _ _, rfl, fun i h => by simp at h⟩, Below.refl _ _⟩
  case round =>
    obtain ⟨k, os, rfl, hk, ho, hb⟩ := hrel
    have hk' : k ≤ es.length := by have := HLA.out; omega
    have HLO := Lib.hid ho.len
    obtain ⟨Ao, co, rfl⟩ := own_sl ho.own
    by_cases hlt : k < es.length
    · have hk3 : k < xs.length := by have := HLA.out; omega
      have ea := (hr.ents k hlt hk3).below hb
      obtain ⟨b, o, rfl, hc⟩ := hr.cells (by rw [ecells_length]; omega)
      obtain ⟨p0, p1, p2, p3⟩ := (entCells_of (fun j u hu => keepc hb (hc j u hu)) k hlt)
      have HE : Hid (xs.take (k + 1) = xs.take k ++ [xs[k]]) := Lib.hid (List.take_succ_eq_append_getElem hk3)
      have hol : os.length ≤ k := by have := HLO.out; rw [List.length_take] at this; omega
      clear hc hr
      have hi1 : (k : Int) < (es.length : Int) := by omega
      generalize xs[k] = x at *
      generalize es[k] = ex at *
      go_wp2_with fail
      refine (own42 ex x wr ea).mono ?_
      rintro r w2 ⟨Au, cu, rfl, hoe, hb2⟩
      have ho2 := ho.below hb2
      have hHO := Lib.hid ho2
      clear ho2
      go_wp2_with (at_builtin; go_must (refine wpList_append_own _ rfl _ _ 24 rfl w.heap.size 34 i0 _ 4 56 Try.underlying24 hi0 hz0 hz1 hz2 rfl (by decide) _ os.length (ecells os) rfl (hHO.out.own.alloc _) ⟨w2.heap.size, 0, none⟩ 1 1 [.int .i64 ex.s, .int .i64 ex.t, .slice Au ex.n cu, .string ex.x] rfl rfl (news_at _ #[.int .i64 ex.s, .int .i64 ex.t, .slice Au ex.n cu, .string ex.x] 34 _ rfl) (by simp [Value.oneCell']) (by unfold maxLen; omega) (by omega) (by have := hb2.size; have := hb.size; simp; omega) ?_); intro v9 w9 hown9 hgrow9 _)
      have hfin := all29_inv hHO.out hoe hb hb2 hown9 hgrow9
      clear hown9 hgrow9
      go_roundw
      case rel => exact ⟨k + 1, _, by go_num, by omega, by rw [HE.out]; exact hfin.1, hfin.2⟩
      case measure => simp [intOf]; omega
    · have HF : Hid (xs.take k = xs) := Lib.hid (by have := HLA.out; rw [List.take_of_length_le (by omega)])
      go_wp2
      go_ret
      exact ⟨_, os, rfl, by rw [← HF.out]; exact ho, hb⟩
end Go.Proofs.Ytjfggmkfnofldaa
