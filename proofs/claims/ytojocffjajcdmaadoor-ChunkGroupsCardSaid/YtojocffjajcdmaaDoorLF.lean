/- Chunks of one's own whose last one's rows grow. -/
import Derived.Test.YtojocffjajcdmaaDoorLC
import Derived.Test.YtojocffjajcdmaaDoorLU
import Derived.Test.YtojocffjajcdmaaDoorLE
import Derived.Test.YtojocffjajcdmaaDoorLX
import Derived.Test.YtojocffjajcdmaaDoorLW
namespace Go.Proofs.YtojocffjajcdmaaDoor.RF
open Go Go.RowKit Go.Shelf Go.Sort Go.Proofs.YtojocffjajcdmaaDoor Go.Proofs.YtojocffjajcdmaaDoorW.PrintWords Go.Proofs.YtojocffjajcdmaaDoorW.PrintLast Go.Proofs.YtojocffjajcdmaaDoorW.PrintMore PChunkAll
set_option linter.unusedVariables false
set_option linter.unusedSimpArgs false

theorem own_lt {W : World} {B : Nat} {e : TypeId} {k n : Nat} {v : Value} {xs : List Value} {b : Nat} (h : W.ownsRow B e k v n xs) (hb : v.ownBlock = some b) : b < W.heap.size := by
  rcases h.2 with ⟨rfl, _⟩ | ⟨g', cap', cur', rfl, _, h6, _⟩
  · cases hb
  · simp [Value.ownBlock] at hb; subst hb; exact (Array.getElem?_eq_some_iff.1 h6).1
/-- The chunks' rows lie below block Bl. -/
def LtB (rs : List RK) (Bl : Nat) : Prop := ∀ q ∈ rs, ∀ j, (Value.slice q.A2 q.rows.length q.c2).ownBlock = some j → j < Bl
theorem LtB.of {T E B : Nat} {v : Value} {rs : List RK} {W : World} (h : ChksO T E B v rs W) {Bl : Nat} (hB : W.heap.size ≤ Bl) : LtB rs Bl := fun q hq j hj => Nat.lt_of_lt_of_le (own_lt (h.rows q hq).2 hj) hB
/-- A row of rows that lies behind them grows. -/
theorem ChksO.growE {T E B Bl : Nat} {v u : Value} {rs : List RK} {W W' : World} {n : Nat} {xs : List Value} (h : ChksO T E B v rs W) (hB : B ≤ Bl) (hT : T ≠ E) (hE : E ≠ 112) (hl : LtB rs Bl) (hu : W.ownsRow Bl E 3 u n xs) (hg : W.grownBy W' u.ownBlock) : ChksO T E B v rs W' := by
  refine ⟨own_grown (own_le hu hB) hg h.own (fun e => hT e.symm), fun q hq => ⟨(h.labs q hq).1, own_grown (own_le hu hB) hg (h.labs q hq).2 hE⟩, fun q hq => ⟨(h.rows q hq).1, own_kept (h.rows q hq).2 hg ?_⟩⟩
  cases e : (Value.slice q.A2 q.rows.length q.c2).ownBlock with
  | none => exact .inr rfl
  | some j =>
    refine .inl (fun e2 => ?_)
    have h1 := hl q hq j e
    have h2 := own_ge hu e2.symm
    omega
/-- Chunks; the last one's rows lie behind all others'. -/
structure GI (T E B : Nat) (v : Value) (rs : List RK) (r : RK) (W : World) : Prop where
  all : ChksO T E B v (rs ++ [r]) W
  bl : ∃ Bl, B ≤ Bl ∧ Bl ≤ W.heap.size ∧ LtB rs Bl ∧ W.ownsRow Bl E 3 (.slice r.A2 r.rows.length r.c2) r.rows.length (rcells r.rows)
theorem GI.below {T E B : Nat} {v : Value} {rs : List RK} {r : RK} {W W' : World} (h : GI T E B v rs r W) (hb : Below W.heap.size W W') : GI T E B v rs r W' := by
  obtain ⟨Bl, h1, h0, h2, h3⟩ := h.bl
  exact ⟨h.all.below hb, Bl, h1, Nat.le_trans h0 hb.size, h2, own_below h3 hb⟩
theorem GI.out {T E B : Nat} {v : Value} {rs : List RK} {r : RK} {W : World} (h : GI T E B v rs r W) :
    ∃ g c, v = .slice (some ⟨g, 0, none⟩) (rs.length + 1) c ∧ B ≤ g ∧ g < W.heap.size ∧ rs.length + 1 ≤ c ∧ W.cell? ⟨g, rs.length * 2, none⟩ = some (.slice r.A1 r.ls.length r.c1) ∧ W.cell? ⟨g, rs.length * 2 + 1, none⟩ = some (.slice r.A2 r.rows.length r.c2) ∧ ∀ j, W.frozen? ⟨g, j, none⟩ = false := by
  have ho := h.all.own
  obtain ⟨A, c, rfl, hc⟩ := own_slice ho
  rcases ho.2 with ⟨h1, h2⟩ | ⟨g, cap, cur, h1, h2, h3, h4, _⟩
  · simp at h2
  · injection h1 with a1 a2 a3
    subst a1
    have hlt : g < W.heap.size := (Array.getElem?_eq_some_iff.1 h3).1
    have hlen : (rs ++ [r]).length = rs.length + 1 := by simp
    obtain ⟨b, o, e, hcl⟩ := own_rowC ho (by rw [flat_len _ 2 RK.cells_len, hlen]; omega)
    injection e with e; injection e with e1 e2
    subst e1; subst e2
    have hget : ∀ j u, j < 2 → r.cells[j]? = some u → W.cell? ⟨g, rs.length * 2 + j, none⟩ = some u := by
      intro j u hj hu
      have hi : rs.length < (rs ++ [r]).length := by rw [hlen]; omega
      have := hcl (rs.length * 2 + j) u ((flat_get RK.cells 2 RK.cells_len (rs ++ [r]) rs.length j hi hj).trans (by simpa using hu))
      rwa [Nat.zero_add] at this
    exact ⟨g, c, by rw [hlen], h2, hlt, by rw [hlen] at hc; exact hc, hget 0 _ (by decide) rfl, hget 1 _ (by decide) rfl, fun j => ho.frozenAt j⟩
/-- A chunk of no rows is put behind them. -/
theorem GI.push {T E B : Nat} {v v' : Value} {rs : List RK} {A1 : Option Addr} {c1 : Nat} {ls : List S112} {W W' : World} (h : ChksO T E B v rs W) (hB : B ≤ W'.heap.size) (hT : T ≠ 112) (hE : T ≠ E) (h1 : W'.ownsRow B T 2 v' (rs.length + 1) (rs.flatMap RK.cells ++ RK.cells ⟨A1, c1, ls, none, 0, []⟩)) (hg : W.grownBy W' v.ownBlock)
    (hl : ls.length ≤ c1 ∧ W.ownsRow B 112 2 (.slice A1 ls.length c1) ls.length (lcells ls)) : GI T E B v' rs ⟨A1, c1, ls, none, 0, []⟩ W' :=
  ⟨h.snoc hT hE h1 hg hl ⟨Nat.le_refl _, World.ownsRow_nil _ _ _ _⟩, W'.heap.size, hB, Nat.le_refl _, LtB.of h hg.size, World.ownsRow_nil _ _ _ _⟩
/-- Its rows grow by one. -/
theorem GI.grow {T E B Bl : Nat} {g c : Nat} {rs : List RK} {r : RK} {A2 : Option Addr} {c2 : Nat} {x : S71} {W W' : World} (h : GI T E B (.slice (some ⟨g, 0, none⟩) (rs.length + 1) c) rs r W) (hT : T ≠ 112) (hTE : T ≠ E) (hE : E ≠ 112) (hB : B ≤ Bl) (hBl : Bl ≤ W.heap.size) (hl : LtB rs Bl) (hu : W.ownsRow Bl E 3 (.slice r.A2 r.rows.length r.c2) r.rows.length (rcells r.rows))
    (hg : W.grownBy W' (Value.slice r.A2 r.rows.length r.c2).ownBlock) (hu' : W'.ownsRow Bl E 3 (.slice A2 (r.rows.length + 1) c2) (r.rows.length + 1) (rcells r.rows ++ [.int .i64 x.f0, .int .i64 x.f1, .string x.f2])) (hc2 : r.rows.length + 1 ≤ c2) :
    GI T E B (.slice (some ⟨g, 0, none⟩) (rs.length + 1) c) rs ⟨r.A1, r.c1, r.ls, A2, c2, r.rows ++ [x]⟩ (W'.setCell ⟨g, rs.length * 2 + 1, none⟩ (.slice A2 (r.rows.length + 1) c2)) := by
  have hall := h.all
  have hown := own_grown (own_le hu hB) hg hall.own (fun e => hTE e.symm)
  have hlen : (rs ++ [r]).length = rs.length + 1 := by simp
  rw [hlen] at hown
  have hst := (hown.stored (rs.length * 2 + 1) (.slice A2 (r.rows.length + 1) c2)).1
  have hi : rs.length < (rs ++ [r]).length := by simp
  have hgb : ∃ cur, W'.heap[g]? = some (.cells cur T (0, 0)) := by
    rcases hown.2 with ⟨h1, h2⟩ | ⟨q, cap, cur, h1, h2, h3, _⟩
    · simp at h2
    · injection h1 with a1 a2 a3; injection a1 with a1; injection a1 with a1; subst a1; exact ⟨cur, h3⟩
  obtain ⟨cur, hcur⟩ := hgb
  have hne : ∀ {B' e' k' n' : Nat} {v' : Value} {xs' : List Value}, W'.ownsRow B' e' k' v' n' xs' → T ≠ e' → v'.ownBlock ≠ some g := by
    intro B' e' k' n' v' xs' h' ht q
    rcases h'.2 with ⟨rfl, _⟩ | ⟨g', cap', cur', rfl, _, h6, _⟩
    · cases q
    · simp [Value.ownBlock] at q; subst q; rw [hcur] at h6; injection h6 with h6; injection h6 with _ h6 _; exact ht h6
  have hrx : rcells (r.rows ++ [x]) = rcells r.rows ++ [.int .i64 x.f0, .int .i64 x.f1, .string x.f2] := by unfold rcells; rw [List.flatMap_append]; simp
  have hlx : (r.rows ++ [x]).length = r.rows.length + 1 := by simp
  have hu2 : (W'.setCell ⟨g, rs.length * 2 + 1, none⟩ (.slice A2 (r.rows.length + 1) c2)).ownsRow Bl E 3 (.slice A2 (r.rows ++ [x]).length c2) (r.rows ++ [x]).length (rcells (r.rows ++ [x])) := by
    rw [hrx, hlx]
    exact ownsRow_setCell_other hu' (fun e => hne hu' hTE e) _
  refine ⟨⟨?_, ?_, ?_⟩, Bl, hB, by have := hg.size; simp [World.setCell]; omega, hl, hu2⟩
  · rw [flat_set RK.cells 2 RK.cells_len (rs ++ [r]) rs.length 1 _ ⟨r.A1, r.c1, r.ls, A2, c2, r.rows ++ [x]⟩ hi (by decide) (by simp [RK.cells])] at hst
    have e : (rs ++ [r]).set rs.length ⟨r.A1, r.c1, r.ls, A2, c2, r.rows ++ [x]⟩ = rs ++ [⟨r.A1, r.c1, r.ls, A2, c2, r.rows ++ [x]⟩] := by simp
    rw [e] at hst
    simpa using hst
  · intro q hq
    have hq' : q.ls.length ≤ q.c1 ∧ W.ownsRow B 112 2 (.slice q.A1 q.ls.length q.c1) q.ls.length (lcells q.ls) := by
      rcases List.mem_append.1 hq with hq | hq
      · exact hall.labs q (List.mem_append_left _ hq)
      · rw [List.mem_singleton] at hq; subst hq; exact hall.labs r (by simp)
    have h2 := own_grown (own_le hu hB) hg hq'.2 hE
    exact ⟨hq'.1, ownsRow_setCell_other h2 (fun e => hne h2 hT e) _⟩
  · intro q hq
    rcases List.mem_append.1 hq with hq | hq
    · have hq' := hall.rows q (List.mem_append_left _ hq)
      have h2 : W'.ownsRow B E 3 (.slice q.A2 q.rows.length q.c2) q.rows.length (rcells q.rows) := by
        refine own_kept hq'.2 hg ?_
        cases e : (Value.slice q.A2 q.rows.length q.c2).ownBlock with
        | none => exact .inr rfl
        | some j =>
          refine .inl (fun e2 => ?_)
          have h1 := hl q hq j e
          have h2 := own_ge hu e2.symm
          omega
      exact ⟨hq'.1, ownsRow_setCell_other h2 (fun e => hne h2 hTE e) _⟩
    · rw [List.mem_singleton] at hq; subst hq
      exact ⟨by rw [hlx]; exact hc2, own_le hu2 hB⟩
/-- Behind the growth, ahead of the store. -/
theorem GI.after {T E B Bl : Nat} {g c : Nat} {rs : List RK} {r : RK} {W W' : World} (h : GI T E B (.slice (some ⟨g, 0, none⟩) (rs.length + 1) c) rs r W) (hTE : T ≠ E) (hB : B ≤ Bl) (hu : W.ownsRow Bl E 3 (.slice r.A2 r.rows.length r.c2) r.rows.length (rcells r.rows))
    (hg : W.grownBy W' (Value.slice r.A2 r.rows.length r.c2).ownBlock) : W'.cell? ⟨g, rs.length * 2 + 1, none⟩ = some (.slice r.A2 r.rows.length r.c2) ∧ W'.frozen? ⟨g, rs.length * 2 + 1, none⟩ = false := by
  have hown := own_grown (own_le hu hB) hg h.all.own (fun e => hTE e.symm)
  have hi : rs.length < (rs ++ [r]).length := by simp
  have hlen : (rs ++ [r]).length = rs.length + 1 := by simp
  rw [hlen] at hown
  refine ⟨?_, hown.frozenAt _⟩
  rw [hown.cellAt (rs.length * 2 + 1) (by omega), flat_get RK.cells 2 RK.cells_len (rs ++ [r]) rs.length 1 hi (by decide)]
  simp [RK.cells]
end Go.Proofs.YtojocffjajcdmaaDoor.RF
/- record.Sort: what its cells hold. (Printed by mkZ2.py.) -/
namespace Go.Proofs.YtojocffjajcdmaaDoor.RF
open Go Go.RowKit Go.Shelf Go.Sort Go.Proofs.YtojocffjajcdmaaDoor Go.Proofs.YtojocffjajcdmaaDoorW.PrintWords Go.Proofs.YtojocffjajcdmaaDoorW.PrintLast Go.Proofs.YtojocffjajcdmaaDoorW.PrintMore PChunkAll
set_option linter.unusedVariables false
set_option linter.unusedSimpArgs false

/-- A row that lies in block g and may be written. -/
def RowF (W : World) (g : Nat) (xs : List Value) : Prop := ∀ j u, xs[j]? = some u → W.cell? ⟨g, j, none⟩ = some u ∧ W.frozen? ⟨g, j, none⟩ = false
theorem RowF.rowC {W : World} {g : Nat} {xs : List Value} (h : RowF W g xs) : RowC W (some ⟨g, 0, none⟩) xs := fun _ => ⟨g, 0, rfl, fun j u hu => by rw [Nat.zero_add]; exact (h j u hu).1⟩
section
variable {α : Type} [Inhabited α] {enc : α → List Value}
theorem rowF_of_SB (hk : ∀ x, (enc x).length = 4) {w0 W : World} {g : Nat} {d : Array α} (h : ST.SB enc 4 w0 g 0 d W) : RowF W g (d.toList.flatMap enc) := by
  intro j u hu
  have hj := (List.getElem?_eq_some_iff.1 hu).1
  rw [flat_len enc 4 hk] at hj
  have e : j = j / 4 * 4 + j % 4 := by omega
  have hq : j / 4 < d.toList.length := by omega
  have hq' : j / 4 < d.size := by simpa using hq
  have hh := h.holds j (by rw [Go.Sort.size_flatK]; simpa using hj)
  rw [Nat.zero_add] at hh
  rw [e, flat_get enc 4 hk _ _ _ hq (by omega)] at hu
  refine ⟨?_, hh.2⟩
  rw [hh.1, Go.Sort.get_flatK _ _ _ j (by simpa using hj)]
  have e2 : d[j / 4]! = d.toList[j / 4] := by rw [getElem!_pos d (j / 4) hq']; simp
  rw [e2]
  have h4 : j % 4 < (enc d.toList[j / 4]).length := by rw [hk]; omega
  rw [List.getElem?_eq_getElem h4] at hu
  rw [bang_of _ _ h4]
  exact hu
theorem SB_of_rowF (hk : ∀ x, (enc x).length = 4) (h1 : ∀ x, ∀ v ∈ enc x, v.oneCell' = true) {W : World} {g : Nat} {rs : List α} (h : RowF W g (rs.flatMap enc)) (hg : g < W.heap.size) : ST.SB enc 4 W g 0 rs.toArray W := by
  refine ST.SB.start hk h1 ?_ hg
  intro j hj
  rw [Go.Sort.size_flatK] at hj
  have hj' : j < rs.length * 4 := by simpa using hj
  have hq : j / 4 < rs.length := by omega
  have e : j = j / 4 * 4 + j % 4 := by omega
  have h4 : j % 4 < (enc rs[j / 4]).length := by rw [hk]; omega
  rw [Nat.zero_add, Go.Sort.get_flatK _ _ _ j hj]
  have e2 : rs.toArray[j / 4]! = rs[j / 4] := by rw [getElem!_pos rs.toArray (j / 4) (by simpa using hq)]; simp
  rw [e2, bang_of _ _ h4]
  refine h j _ ?_
  conv => lhs; rw [e]
  rw [flat_get enc 4 hk _ _ _ hq (by omega), List.getElem?_eq_getElem h4]
  rfl
end

/-- An entry's labels lie behind block g, on their own. -/
def LabO (W : World) (g : Nat) (r : RE) : Prop := r.x.f2.length ≤ r.c ∧ W.ownsRow (g + 1) 112 2 (.slice r.A r.x.f2.length r.c) r.x.f2.length (lcells r.x.f2)
/-- Entries in a row of their own, of labels of their own. -/
structure Srt1 (l : List S33) (A : Option Addr) (g : Nat) (rs : List RE) (W : World) : Prop where
  adr : A = some ⟨g, 0, none⟩
  lt : g < W.heap.size
  map : rs.map (·.x) = l
  row : RowF W g (rs.flatMap RE.cells)
  labs : ∀ r ∈ rs, LabO W g r
def SortQ (w : World) (l : List S33) (e : Ending) (w' : World) : Prop := ∃ A' c', e = .returned (.slice A' l.length c') ∧ Below w.heap.size w w' ∧ (0 < l.length → ∃ g rs, w.heap.size ≤ g ∧ Srt1 (sortE l) A' g rs w')

theorem LabO.far {W W' : World} {g : Nat} {r : RE} (h : LabO W g r) (hf : ∀ b, b < W.heap.size → b ≠ g → W'.heap[b]? = W.heap[b]?) : LabO W' g r := by
  refine ⟨h.1, h.2.1, ?_⟩
  rcases h.2.2 with h2 | ⟨g', cap', cur, h2, h3, h4, h5⟩
  · exact .inl h2
  · refine .inr ⟨g', cap', cur, h2, h3, ?_, h5⟩
    have hlt : g' < W.heap.size := (Array.getElem?_eq_some_iff.1 h4).1
    rw [hf g' hlt (by omega)]; exact h4
/-- Behind the sort. -/
theorem _root_.Go.Proofs.YtojocffjajcdmaaDoor.SoI.sortedQ {w wr W : World} {g n cap : Nat} {l : List S33} {rs : List RE} {d' : Array RE} (h : SoI w g n cap l n rs wr) (hM : ST.Mrg cfE RE.tg 0 rs.toArray.size rs.toArray d') (hS : ST.SB RE.cells 4 wr g 0 d' W) :
    Below w.heap.size w W ∧ Srt1 (sortE l) (some ⟨g, 0, none⟩) g d'.toList W := by
  have hu := ST.srt_unique cfE_swo h.asc hM
  have hx : d'.toList.map (·.x) = sortE l := by
    rw [hu, ST.srt_map (·.x) (ltOf cfE) ltE (fun x y => rfl), ← h.map]; simp [sortE]
  have hmem : ∀ r ∈ d'.toList, r ∈ rs := fun r hr => by
    rw [hu] at hr
    simpa using (ST.srt_perm _ _).mem_iff.1 hr
  have hlg := h.lg
  have hgl := h.gl
  refine ⟨⟨hS.os.trans h.below.os, hS.tape.trans h.below.tape, hS.output.trans h.below.output, Nat.le_trans h.below.size hS.size, fun k hk => ?_⟩, rfl, Nat.lt_of_lt_of_le hgl hS.size, hx, rowF_of_SB RE.cells_len hS, fun r hr => ?_⟩
  · rw [hS.far k (by have := h.below.size; omega) (by omega)]
    exact h.below.block k hk
  · obtain ⟨k, hk, rfl⟩ := List.getElem_of_mem (hmem r hr)
    have ho := h.new k hk (by have := h.len; omega)
    have hl : LabO wr g rs[k] := by
      refine ⟨?_, ho⟩
      obtain ⟨h1, h2⟩ := ho
      rcases h2 with ⟨h2, h3⟩ | ⟨g', cap', cur, h2, h3, h4, h5, h6⟩
      · rw [h3]; exact Nat.zero_le _
      · injection h2 with _ _ h2; rw [h2]; exact h5
    exact hl.far hS.far

set_option maxHeartbeats 8000000 in
set_option maxRecDepth 100000 in
theorem rsortQ_any (A : Option Addr) (c : Nat) (l : List S33) (w : World) (hr : Kd.C k33 w A l.length l) (hE : EntsOk l) : Calls Tryd.prog 49 #[.slice A l.length c] w (SortQ w l) := by
  obtain ⟨rs, hmap, htag, hrow, hok⟩ := raw_of hr
  have hlen : rs.length = l.length := by rw [← hmap]; simp
  have hcl := clone_ents A l.length c (rs.flatMap RE.cells) w (by rw [flat_len RE.cells 4 RE.cells_len, hlen]) (flat_one _ RE.cells_one rs) hrow (by have := hE.1; omega)
  have HL := Lib.hid hlen
  have HM := Lib.hid hmap
  have HT := Lib.hid htag
  have HOK := Lib.hid hok
  have HE := Lib.hid hE
  unfold SortQ
  clear hlen hmap htag hrow hok hr hE
  by_cases hn : l.length = 0
  · have hl : l = [] := List.eq_nil_of_length_eq_zero hn
    subst hl
    have hrs : rs = [] := List.eq_nil_of_length_eq_zero HL.out
    subst hrs
    simp only [List.length_nil] at hcl ⊢
    clear hn HL HM HT HOK HE
    go_enter Tryd.func49, Tryd.ntmps49
    go_upto_region 2 with (go_at_call 109; (with_reducible refine hcl.mono ?_); rintro e w1 ⟨v, rfl, ho, hb⟩)
    have hv : ∃ A1 c1, v = .slice A1 0 c1 := by
      obtain ⟨_, h | ⟨g, cap, _, h, _⟩⟩ := ho
      · exact ⟨none, 0, h.1⟩
      · exact ⟨_, _, h⟩
    obtain ⟨A1, c1, rfl⟩ := hv
    go_wp2
    refine wp_loop_rounds 1 ?_
    rw [rounds_succ]
    go_wp2_with (go_at_call 111; (with_reducible refine (sort_nil _ _ _ _).mono ?_); rintro e w2 ⟨rfl, rfl⟩)
    go_ret
    exact ⟨A1, c1, rfl, hb, fun h => absurd h (Nat.lt_irrefl 0)⟩
  · obtain ⟨n, hnl⟩ : ∃ n, n = l.length := ⟨_, rfl⟩
    rw [← hnl] at hcl hn HL HT ⊢
    have HNL := Lib.hid hnl
    have hmx : n ≤ 2513169434916 := by rw [hnl]; exact HE.out.1
    clear hnl
    go_enter Tryd.func49, Tryd.ntmps49
    go_upto_region 2 with (go_at_call 109; (with_reducible refine hcl.mono ?_); rintro e w1 ⟨v, rfl, ho, hb⟩)
    have hv : ∃ g cap, v = .slice (some ⟨g, 0, none⟩) n cap ∧ w.heap.size ≤ g ∧ g < w1.heap.size := by
      obtain ⟨_, h | ⟨g, cap, cur, h, h2, h3, _⟩⟩ := ho
      · exact absurd h.2 hn
      · exact ⟨g, cap, h, h2, (Array.getElem?_eq_some_iff.1 h3).1⟩
    obtain ⟨g, cap, rfl, hg1, hg2⟩ := hv
    have S0 : Hid (SoI w g n cap l 0 rs w1) := ⟨HL.out, HM.out, HT.out, ho, fun k _ h => absurd h (Nat.not_lt_zero _), fun k hk _ => (HOK.out _ (List.getElem_mem hk)).2, hb, hg1, hg2⟩
    clear ho hb hcl hg1 hg2 HL HM HT HOK
    go_wp2
    go_loopg [10] n (fun kx v10 wr => ∃ (i : Nat) (rs : List RE), v10 = .int .i64 i ∧ i ≤ n ∧ n - i ≤ kx ∧ Hid (SoI w g n cap l i rs wr))
    case atStart => exact ⟨0, rs, rfl, Nat.zero_le _, by omega, S0⟩
    case round =>
      clear S0
      obtain ⟨i, rs, rfl, hin, hkx, S1⟩ := hrel
      by_cases hlt : i < n
      · have hltz : (i : Int) < (n : Int) := by omega
        have hir : i < rs.length := by rw [S1.out.len]; exact hlt
        have c2 := S1.out.cell i 2 hir (by omega)
        have f2 := S1.out.frz (i * 4 + 2)
        have hco := Kd.C_below (S1.out.old i hir (Nat.le_refl _)) S1.out.below
        have hlb : rs[i].x.f2.length < 4398046511104 := by
          have h := HE.out.2.2 i (by rw [← HNL.out]; exact hlt)
          have e : l.getD i z33 = rs[i].x := by
            have := S1.out.map
            subst this
            simp [hir]
          rwa [e] at h
        have hc := clone_labs rs[i].A rs[i].x.f2.length rs[i].c (lcells rs[i].x.f2) wr (lcells_len _) (lcells_one _) (lab_C hco) (by omega)
        simp only [RE.cells, List.getElem?_cons_succ, List.getElem?_cons_zero] at c2
        have hst := fun A2 c2 w1 ho hb => S1.out.step (A2 := A2) (c2 := c2) (w1 := w1) hir ho hb
        have HST := Lib.hid hst
        have HGL := Lib.hid S1.out.gl
        clear hst hco hlb
        generalize rs[i].x.f2.length = m at *
        generalize rs[i].A = A1 at *
        generalize rs[i].c = c1 at *
        go_wp2_with (go_at_call 104; (with_reducible refine hc.mono ?_); rintro e w2 ⟨v2, rfl, ho2, hb2⟩; have hv2 : ∃ A2 c2, v2 = .slice A2 m c2 := (by obtain ⟨_, h | ⟨g, cap, _, h, _⟩⟩ := ho2; exact ⟨none, 0, by rw [h.1, h.2]⟩; exact ⟨_, _, h⟩); obtain ⟨A2, c2', rfl⟩ := hv2; have fz := hb2.frozen (show (⟨g, i * 4 + 2, none⟩ : Addr).block < wr.heap.size from HGL.out); rw [f2] at fz; have cz := pw_cell_below hb2 c2; have HO := Lib.hid ho2; have HB := Lib.hid hb2; clear ho2 hb2 c2 f2)
        go_roundg (n - (i + 1))
        case measure => omega
        case rel => exact ⟨i + 1, _, by go_num, by omega, Nat.le_refl _, HST.out A2 c2' w2 HO.out HB.out⟩
      · have hltz : ¬ (i : Int) < (n : Int) := by omega
        obtain rfl : i = n := by omega
        have hlr := S1.out.len
        have hsz : rs.toArray.size = i := by simpa using hlr
        have hc := ST.sort_calls RE.cells cfE RE.tg cfE_swo 110 #[.agg #[]] #[] g 0 cap rs.toArray wr wr (fun args w => enters_of Tryd.func110 (by kernel_rfl) rfl args w) (cmp_order _ _ _ _) S1.out.sb S1.out.asc (by omega)
        rw [hsz] at hc
        clear hsz hlr
        go_wp2_with (go_at_call 111; (with_reducible refine hc.mono ?_); rintro e w2 ⟨rfl, d', hM, hS⟩)
        go_ret
        have hfin := S1.out.sortedQ (by have := S1.out.len; simpa [this] using hM) hS
        exact ⟨_, cap, rfl, hfin.1, fun _ => ⟨g, _, S1.out.lg, hfin.2⟩⟩
end Go.Proofs.YtojocffjajcdmaaDoor.RF
/- chunk.Group: the sort by labels. -/
namespace Go.Proofs.YtojocffjajcdmaaDoor.RF
open Go Go.RowKit Go.Shelf Go.Sort Go.Proofs.YtojocffjajcdmaaDoor Go.Proofs.YtojocffjajcdmaaDoorW.PrintWords Go.Proofs.YtojocffjajcdmaaDoorW.PrintLast Go.Proofs.YtojocffjajcdmaaDoorW.PrintMore PChunkAll
set_option linter.unusedVariables false
set_option linter.unusedSimpArgs false

theorem LabO.C {W : World} {g : Nat} {r : RE} (h : LabO W g r) : Kd.C k112 W r.A r.x.f2.length r.x.f2 := by
  have hm : r.x.f2.length ≤ 9223372036854775807 := by
    rcases h.2.2 with ⟨h2, h3⟩ | ⟨g', cap', cur, h2, h3, h4, h5, h6, h7⟩
    · rw [h3]; exact Nat.zero_le _
    · have : maxLen = 9223372036854775807 := rfl
      omega
  exact C_lab hm (own_rowC h.2)
set_option maxHeartbeats 1000000 in
theorem gcmp_any (x y : S33) (A1 : Option Addr) (c1 : Nat) (A2 : Option Addr) (c2 : Nat) (W : World) (hx : Kd.C k112 W A1 x.f2.length x.f2) (hy : Kd.C k112 W A2 y.f2.length y.f2) (hl : x.f2.length < 4611686018427387904) :
    Calls Tryd.prog 118 #[entA x A1 c1, entA y A2 c2] W fun e w' => e = .returned (.int .i64 (cmpL x.f2 y.f2)) ∧ Below W.heap.size W w' := by
  have hb2 : Below W.heap.size W ((W.alloc (.cells (entC x A1 c1) 33)).alloc (.cells (entC y A2 c2) 33)) := ((Below.refl _ _).alloc (Nat.le_refl _) _).alloc (by simp) _
  have HB := Lib.hid hb2
  have HC := Lib.hid (lcomp_any A1 c1 x.f2 A2 c2 y.f2 _ (Kd.C_below hx hb2) (Kd.C_below hy hb2) hl)
  clear hx hy hb2
  go_enter Tryd.func118, Tryd.ntmps118
  go_wp2_with (go_at_call 119; (with_reducible refine (HC.out).mono ?_); rintro e w' ⟨rfl, hb⟩)
  go_ret
  exact ⟨rfl, below_step HB.out hb⟩

/-- An entry whose labels lie behind block g. -/
def EB (W : World) (g : Nat) : Type := {r : RE // LabO W g r ∧ r.x.f2.length < 4398046511104}
instance (W : World) (g : Nat) : Inhabited (EB W g) := ⟨⟨⟨z33, none, 0, 0⟩, ⟨Nat.zero_le _, World.ownsRow_nil _ _ _ _⟩, by decide⟩⟩
def encB {W : World} {g : Nat} (r : EB W g) : List Value := r.1.cells
def cfB {W : World} {g : Nat} (x y : EB W g) : Int := cmpL x.1.x.f2 y.1.x.f2
def tgB {W : World} {g : Nat} (x : EB W g) : Nat := x.1.tg
theorem cfB_swo (W : World) (g : Nat) : Go.Sort.SWO (ltOf (cfB (W := W) (g := g))) := ⟨fun x => ltL_swo.irrefl x.1.x, fun x y z => ltL_swo.trans x.1.x y.1.x z.1.x, fun x y z => ltL_swo.ntrans x.1.x y.1.x z.1.x⟩
theorem cmpB_order (w : World) (g n : Nat) : ST.CmpB Tryd.prog 118 #[] #[] encB 4 (cfB (W := w) (g := g)) w g 0 n := by
  intro dk W hS hs x y
  have hx := (x.2.1.far hS.far).C
  have hy := (y.2.1.far hS.far).C
  exact gcmp_any x.1.x y.1.x x.1.A x.1.c y.1.A y.1.c W hx hy (by have := x.2.2; omega)
def retag (rs : List RE) : List RE := rs.mapIdx fun i r => ⟨r.x, r.A, r.c, i⟩
theorem retag_cells (rs : List RE) : (retag rs).flatMap RE.cells = rs.flatMap RE.cells := by
  rw [List.flatMap_def, List.flatMap_def]
  congr 1
  apply List.ext_getElem
  · simp [retag]
  · intro i h1 h2
    simp [retag, RE.cells]
theorem retag_map (rs : List RE) : (retag rs).map (·.x) = rs.map (·.x) := by
  apply List.ext_getElem
  · simp [retag]
  · intro i h1 h2
    simp [retag]
theorem gsort_any (A : Option Addr) (c g : Nat) (l : List S33) (rs : List RE) (w : World) (h : Srt1 l A g rs w) (hn : l.length < 4398046511104) (hls : ∀ r ∈ rs, r.x.f2.length < 4398046511104) :
    Calls Tryd.prog 111 #[.slice A l.length c, .func (.func 118) #[] #[]] w fun e w' => e = .returned (.tuple #[]) ∧ (∃ rs', Srt1 (ST.srt ltL l) A g rs' w') ∧ ∀ B, B ≤ g → Below B w w' := by
  obtain rfl := h.adr
  have hlen : rs.length = l.length := by rw [← h.map]; simp
  have hall : ∀ r ∈ retag rs, LabO w g r ∧ r.x.f2.length < 4398046511104 := by
    intro r hr
    obtain ⟨i, hi, rfl⟩ := List.getElem_of_mem hr
    have hi' : i < rs.length := by simpa [retag] using hi
    have e : (retag rs)[i] = ⟨rs[i].x, rs[i].A, rs[i].c, i⟩ := by simp [retag]
    rw [e]
    have hq := h.labs rs[i] (List.getElem_mem hi')
    exact ⟨hq, hls rs[i] (List.getElem_mem hi')⟩
  obtain ⟨ra, hra⟩ : ∃ ra : List (EB w g), ra.map (·.1) = retag rs := ⟨(retag rs).attachWith _ hall, by exact List.attachWith_map_subtype_val hall⟩
  have hral : ra.length = l.length := by
    have := congrArg List.length hra
    simp [retag] at this
    omega
  have hcells : ra.flatMap encB = rs.flatMap RE.cells := by
    have e : ra.flatMap encB = (ra.map (·.1)).flatMap RE.cells := by rw [List.flatMap_map]; rfl
    rw [e, hra, retag_cells]
  have hk : ∀ x : EB w g, (encB x).length = 4 := fun x => RE.cells_len x.1
  have h1 : ∀ x : EB w g, ∀ v ∈ encB x, v.oneCell' = true := fun x => RE.cells_one x.1
  have S := SB_of_rowF hk h1 (W := w) (g := g) (rs := ra) (by rw [hcells]; exact h.row) h.lt
  have hA : ST.Asc tgB 0 ra.toArray.size ra.toArray := by
    intro p q _ hpq hq
    have hq' : q < ra.length := by simpa using hq
    have e : ∀ k (hk : k < ra.length), tgB ra.toArray[k]! = k := by
      intro k hk
      rw [getElem!_pos ra.toArray k (by simpa using hk)]
      have h2 : (ra.map (·.1))[k]'(by simpa using hk) = (retag rs)[k]'(by rw [← hra]; simpa using hk) := by simp [hra]
      have h3 : ((retag rs)[k]'(by rw [← hra]; simpa using hk)).tg = k := by simp [retag]
      rw [← h2] at h3
      simpa [tgB] using h3
    rw [e p (by omega), e q hq']; exact hpq
  have hsz : ra.toArray.size = l.length := by simpa using hral
  have hc := ST.sort_calls encB cfB tgB (cfB_swo w g) 118 #[] #[] g 0 c ra.toArray w w (fun args w => enters_of Tryd.func118 (by kernel_rfl) rfl args w) (cmpB_order _ _ _) S hA (by omega)
  rw [hsz] at hc
  refine hc.mono ?_
  rintro e w' ⟨rfl, d', hM, hS⟩
  have hu := ST.srt_unique (cfB_swo w g) hA (by rw [hsz]; exact hM)
  have hx : (d'.toList.map (·.1)).map (·.x) = ST.srt ltL l := by
    have e1 : (d'.toList.map (·.1)).map (·.x) = d'.toList.map (fun r => r.1.x) := by rw [List.map_map]; rfl
    rw [e1, hu, ST.srt_map (fun r : EB w g => r.1.x) (ltOf cfB) ltL (fun x y => rfl)]
    congr 1
    have e2 : ra.toArray.toList.map (fun r => r.1.x) = (ra.map (·.1)).map (·.x) := by simp
    rw [e2, hra, retag_map, h.map]
  refine ⟨rfl, ⟨d'.toList.map (·.1), rfl, Nat.lt_of_lt_of_le h.lt hS.size, hx, ?_, fun r hr => ?_⟩, fun B hB => ⟨hS.os, hS.tape, hS.output, hS.size, fun k hk => hS.far k (by have := h.lt; omega) (by omega)⟩⟩
  · have := rowF_of_SB hk hS
    have e : d'.toList.flatMap encB = (d'.toList.map (·.1)).flatMap RE.cells := by rw [List.flatMap_map]; rfl
    rwa [e] at this
  · obtain ⟨q, hq, rfl⟩ := List.mem_map.1 hr
    exact q.2.1.far hS.far
end Go.Proofs.YtojocffjajcdmaaDoor.RF
/- The right entries, of each number the first: what stands between two rounds. -/
namespace Go.Proofs.YtojocffjajcdmaaDoor.RF
open Go Go.RowKit Go.Shelf Go.Sort Go.Proofs.YtojocffjajcdmaaDoor Go.Proofs.YtojocffjajcdmaaDoorW.PrintWords Go.Proofs.YtojocffjajcdmaaDoorW.PrintLast Go.Proofs.YtojocffjajcdmaaDoorW.PrintMore PChunkAll
set_option linter.unusedVariables false
set_option linter.unusedSimpArgs false

/-- The entries' labels lie in the world w of the beginning; block mb is the map. -/
structure G1 (Q : RE → Prop) (w : World) (mb : Nat) (out : List S33) (seen : List Int) (v : Value) (rs : List RE) (W : World) : Prop where
  map : rs.map (·.x) = out
  own : W.ownsRow (mb + 1) 33 4 v rs.length (rs.flatMap RE.cells)
  ok : ∀ r ∈ rs, r.ok w ∧ Q r
  met : SetIs W mb seen.length (fun j => seen.contains j)
  low : Below mb w W
theorem G1.start {Q : RE → Prop} (w : World) : G1 Q w w.heap.size [] [] (.slice none 0 0) [] (w.alloc (.map #[] 0)) :=
  ⟨rfl, World.ownsRow_nil _ _ _ _, fun r hr => (by cases hr), SetIs.made w, (Below.refl _ _).alloc (Nat.le_refl _) _⟩
section
variable {Q : RE → Prop} {w : World} {mb : Nat} {out : List S33} {seen : List Int} {v : Value} {rs : List RE} {W W' : World}
theorem G1.grown (h : G1 Q w mb out seen v rs W) (hb : Below W.heap.size W W') : G1 Q w mb out seen v rs W' :=
  ⟨h.map, own_below h.own hb, h.ok, h.met.below hb, h.low.trans (hb.mono (Nat.le_of_lt h.met.lt))⟩
theorem G1.upd (h : G1 Q w mb out seen v rs W) (x : Int) (hx : (Lit.int .i64 x).wf = true) (hn : seen.length < maxLen) :
    ∃ W', (Instr.mapUpdate 96 (.map (some mb)) (.int .i64 x) (.bool true)).run Tryd.prog W = .ok () W' ∧ G1 Q w mb out (seen ++ [x]) v rs W' ∧ W.grownBy W' (some mb) := by
  obtain ⟨W', hrun, hS, hg⟩ := h.met.update x hx hn true
  refine ⟨W', hrun, ⟨h.map, ?_, h.ok, ?_, h.low.grown hg (Nat.le_of_lt h.met.lt) (fun k e => by cases e; exact Nat.le_refl _)⟩, hg⟩
  · refine own_kept h.own hg ?_
    cases e : v.ownBlock with
    | none => exact .inr rfl
    | some j => exact .inl (fun e2 => by have := own_ge h.own e; injection e2 with e2; omega)
  · rw [List.length_append]
    refine hS.ext fun j => ?_
    by_cases e : j = x
    · subst e; simp
    · simp [e]
/-- An entry more. -/
theorem G1.push (h : G1 Q w mb out seen v rs W) {v' : Value} {r : RE} (h1 : W'.ownsRow (mb + 1) 33 4 v' (rs.length + 1) (rs.flatMap RE.cells ++ r.cells)) (hg : W.grownBy W' v.ownBlock)
    (hr : r.ok w ∧ Q r) : G1 Q w mb (out ++ [r.x]) seen v' (rs ++ [r]) W' := by
  refine ⟨by rw [List.map_append, h.map]; rfl, by simpa using h1, fun q hq => ?_, h.met.kept hg (fun e => by have := own_ge h.own e.symm; omega), h.low.grown hg (Nat.le_of_lt h.met.lt) (fun k e => by have := own_ge h.own e; omega)⟩
  rcases List.mem_append.1 hq with hq | hq
  · exact h.ok q hq
  · rw [List.mem_singleton] at hq; subst hq; exact hr
theorem G1.len (h : G1 Q w mb out seen v rs W) : rs.length = out.length := by rw [← h.map]; simp
/-- The entries read. -/
theorem G1.C (h : G1 Q w mb out seen v rs W) (hw : mb = w.heap.size) {A : Option Addr} {c : Nat} (hv : v = .slice A rs.length c) (hm : rs.length ≤ 9223372036854775807) : Kd.C k33 W A out.length out := by
  subst hv
  have := raw_C hm (own_rowC h.own) (fun r hr => (h.ok r hr).1.below (hw ▸ h.low))
  rw [h.map, h.len] at this
  exact this
end
/-- One round of the plain list. -/
theorem dedL_yes (l : List S33) (i : Nat) (h : i < l.length) (hn : newE (dedL (l.take i)) l[i] = true) : dedL (l.take (i + 1)) = dedL (l.take i) ++ [l[i]] := by rw [dedL_succ l i h, stepD, if_pos hn]
theorem dedL_no (l : List S33) (i : Nat) (h : i < l.length) (hn : newE (dedL (l.take i)) l[i] = false) : dedL (l.take (i + 1)) = dedL (l.take i) := by rw [dedL_succ l i h, stepD, if_neg (by rw [hn]; simp)]
theorem map_snoc0 (out : List S33) (x : S33) : (out ++ [x]).map (·.f0) = out.map (·.f0) ++ [x.f0] := by simp
theorem rent_news (w2 : World) (r : RE) : ∀ j u, r.cells[j]? = some u → (w2.alloc (.cells (entC r.x r.A r.c) 33)).cell? (Addr.add ⟨w2.heap.size, 0, none⟩ j) = some u := by
  intro j u hu
  rw [addr_add, Nat.zero_add]
  have hb : Blk (w2.alloc (.cells (entC r.x r.A r.c) 33)) w2.heap.size (entC r.x r.A r.c) 33 := Blk.new _ _ _ _ rfl
  exact hb.cell j u (by simpa [RE.cells] using hu)
theorem dedL_ok {l : List S33} (h : EntsOk l) : EntsOk (dedL l) := by
  have hget : ∀ (m : List S33) k (hk : k < m.length), m.getD k z33 = m[k] := fun m k hk => by simp [hk]
  refine ⟨Nat.le_trans (dedL_len l) h.1, fun k hk => ?_, fun k hk => ?_⟩
  · obtain ⟨j, hj, e⟩ := List.getElem_of_mem (dedL_mem (List.getElem_mem hk))
    have := h.2.1 j hj
    rw [hget _ _ hj, e] at this
    rw [hget _ _ hk]
    exact this
  · obtain ⟨j, hj, e⟩ := List.getElem_of_mem (dedL_mem (List.getElem_mem hk))
    have := h.2.2 j hj
    rw [hget _ _ hj, e] at this
    rw [hget _ _ hk]
    exact this
end Go.Proofs.YtojocffjajcdmaaDoor.RF
/- Chunks put behind one another while one is in its box. -/
namespace Go.Proofs.YtojocffjajcdmaaDoor.RF
open Go Go.RowKit Go.Shelf Go.Sort Go.Proofs.YtojocffjajcdmaaDoor Go.Proofs.YtojocffjajcdmaaDoorW.PrintWords Go.Proofs.YtojocffjajcdmaaDoorW.PrintLast Go.Proofs.YtojocffjajcdmaaDoorW.PrintMore PChunkAll
set_option linter.unusedVariables false
set_option linter.unusedSimpArgs false

/-- An append of one's own stays in its block, or goes to a new one. -/
theorem run_append_where {P : Program} (w : World) (base : Nat) (t ty e : TypeId) (i : TypeInfo) (z : Value) (size bytes : Nat) (ht : P.underlying t = some (.slice e)) (hi : P.info? e = some i) (hz : i.zero = some z)
    (hsize : i.size = size) (hby : i.bytes = bytes) (hzs : z.cells.size = size) (hsz : 0 < size)
    (v : Value) (n : Nat) (xs : List Value) (hown : w.ownsRow base e size v n xs)
    (a : Addr) (m c : Nat) (news : List Value) (hl : news.length = m * size) (hnews : ∀ j u, news[j]? = some u → w.cell? (a.add j) = some u) (h1 : ∀ u ∈ news, u.oneCell' = true)
    (h63 : n + m ≤ maxLen) (hbytes : (n + m) * bytes ≤ 140737488355328) (hbase : base ≤ w.heap.size) :
    ∃ v' w', (Builtin.append_ #[t, t] ty #[v, .slice (some a) m c]).run P w = .ok v' w' ∧ w'.ownsRow base e size v' (n + m) (xs ++ news) ∧ w.grownBy w' v.ownBlock ∧ ∀ j, v'.ownBlock = some j → v.ownBlock = some j ∨ w.heap.size ≤ j := by
  obtain ⟨v', w', hr, h2, h3, h4⟩ := run_append_own (P := P) w base t ty e i z size bytes ht hi hz hsize hby hzs hsz v n xs hown a m c news hl hnews h1 h63 hbytes hbase
  refine ⟨v', w', hr, h2, h3, fun j hj => ?_⟩
  subst hsize
  subst hby
  have hsmall : n + m ≤ 9223372036854775807 := by simp only [maxLen] at h63; omega
  rcases hown.2 with ⟨rfl, rfl⟩ | ⟨g, cap, cur, rfl, hbg, hg, hnc, hcm, hcs, htake⟩
  · by_cases hm : m = 0
    · have := h4.2 ⟨rfl, hm⟩
      rw [this] at hj
      cases hj
    · have hr2 := run_append_nil (P := P) w t ty e i z ht hi hz a m c news hl hnews (by omega) (by omega) (by have hb := hbytes; simp only [Nat.zero_add] at hb; omega)
      rw [hr] at hr2
      injection hr2 with e1 e2
      rw [e1] at hj
      simp [Value.ownBlock] at hj
      right; omega
  · by_cases hroom : n + m ≤ cap
    · have hfit : n * i.size + news.length ≤ cur.size := by rw [hl, hcs, ← Nat.add_mul]; exact Nat.mul_le_mul_right _ hroom
      have hr2 := run_append_room (P := P) w t ty e i ht hi g n cap cur hg a m c news hl hnews h1 hroom hfit
      rw [hr] at hr2
      injection hr2 with e1 e2
      rw [e1] at hj
      left
      simpa [Value.ownBlock] using hj
    · have holds : ∀ j u, xs[j]? = some u → w.cell? ((⟨g, 0, none⟩ : Addr).add j) = some u := hown.cells (g := g) rfl
      have hr2 := run_append_grow (P := P) w t ty e i z ht hi hz ⟨g, 0, none⟩ n cap xs hown.1 holds a m c news hl hnews (by omega) (by omega) (growslice_fits (by omega) hbytes)
      rw [hr] at hr2
      injection hr2 with e1 e2
      rw [e1] at hj
      simp [Value.ownBlock] at hj
      right; omega
/-- append at a step, whatever is appended. -/
theorem wpList_append_row {P : Program} {w : World} {ops : Array Oper} {rest : List Oper} {o : Oper} {a : Act} {Q : Exit → Act → World → Prop} (hgd : o.guard = none) (s x : Operand) (t : TypeId)
    (ho : o.op = .call { callee := .builtin .append, args := #[s, x], argTypes := #[t, t] })
    (base : Nat) (e : TypeId) (i : TypeInfo) (z : Value) (size bytes : Nat) (ht : P.underlying t = some (.slice e)) (hi : P.info? e = some i) (hz : i.zero = some z)
    (hsize : i.size = size) (hby : i.bytes = bytes) (hzs : z.cells.size = size) (hsz : 0 < size)
    (v : Value) (n : Nat) (xs : List Value) (hs : a.eval s = v) (hown : w.ownsRow base e size v n xs)
    (A : Option Addr) (m c : Nat) (news : List Value) (hx : a.eval x = .slice A m c) (hA : A = none → c = 0) (hmc : m ≤ c) (hl : news.length = m * size) (hnews : RowC w A news) (h1 : ∀ u ∈ news, u.oneCell' = true)
    (h63 : n + m ≤ maxLen) (hbytes : (n + m) * bytes ≤ 140737488355328) (hbase : base ≤ w.heap.size)
    (h : ∀ v' w', w'.ownsRow base e size v' (n + m) (xs ++ news) → w.grownBy w' v.ownBlock → (∀ j, v'.ownBlock = some j → v.ownBlock = some j ∨ w.heap.size ≤ j) → wpList P ops Q rest (a.put o.dst v') w') : wpList P ops Q (o :: rest) a w := by
  refine wpList_plain hgd fun _ hK => ?_
  rcases A with _ | ad
  · obtain rfl : c = 0 := hA rfl
    obtain rfl : m = 0 := by omega
    have hn : news = [] := List.eq_nil_of_length_eq_zero (by simpa using hl)
    subst hn
    have hrun := run_append_owned_none (P := P) (w := w) base t o.type e i size ht hi v n xs hown
    unfold Oper.wp
    simp [execOp, ho, resolve, invoke, builtin, hs, hx, hrun, Result.andThen]
    exact hK _ _ (h v w (by simpa using hown) ⟨rfl, rfl, rfl, Nat.le_refl _, fun k _ _ => rfl⟩ (fun j hj => .inl hj))
  · obtain ⟨v', w', hr, h2, h3, h4⟩ := run_append_where (P := P) w base t o.type e i z size bytes ht hi hz hsize hby hzs hsz v n xs hown ad m c news hl (fun j u hu => by
      have hj := (List.getElem?_eq_some_iff.1 hu).1
      obtain ⟨b, o', e', hc⟩ := hnews (by omega)
      cases e'
      rw [addr_add]
      exact hc j u hu) h1 h63 hbytes hbase
    unfold Oper.wp execOp
    simp only [ho, resolve, invoke, builtin, Sem.run_bind, Sem.run_pure, Result.andThen_ok, List.map_toArray, List.map_cons, List.map_nil, hs, hx, hr]
    exact hK _ _ (h v' w' h2 h3 h4)

/-- Chunks, and a box apart from them. -/
structure C0 (B : Nat) (w7 : World) (v : Value) (rs : List RK) (bc : Nat) (cs : Array Value) (W : World) : Prop where
  out : ChksO 50 93 B v rs W
  box : Blk W bc cs 50
  ne : v.ownBlock ≠ some bc
  hbc : B ≤ bc
  low : Below B w7 W
  sz : B ≤ W.heap.size
abbrev boxC (r : RK) : Array Value := #[.slice r.A1 r.ls.length r.c1, .slice r.A2 r.rows.length r.c2]
structure CI (B : Nat) (w7 : World) (v : Value) (rs : List RK) (r : RK) (bc Bl : Nat) (W : World) : Prop where
  c0 : C0 B w7 v rs bc (boxC r) W
  lab : r.ls.length ≤ r.c1 ∧ W.ownsRow B 112 2 (.slice r.A1 r.ls.length r.c1) r.ls.length (lcells r.ls)
  rc : r.rows.length ≤ r.c2
  hB : B ≤ Bl
  hBl : Bl ≤ W.heap.size
  lt : LtB rs Bl
  row : W.ownsRow Bl 93 3 (.slice r.A2 r.rows.length r.c2) r.rows.length (rcells r.rows)
section
variable {B bc Bl : Nat} {w7 W W' : World} {v v' : Value} {rs : List RK} {r : RK} {cs : Array Value}
theorem C0.below (h : C0 B w7 v rs bc cs W) (hb : Below W.heap.size W W') : C0 B w7 v rs bc cs W' :=
  ⟨h.out.below hb, Blk.grown h.box (grown_below hb) (fun e => by cases e), h.ne, h.hbc, h.low.trans (hb.mono h.sz), Nat.le_trans h.sz hb.size⟩
theorem CI.below (h : CI B w7 v rs r bc Bl W) (hb : Below W.heap.size W W') : CI B w7 v rs r bc Bl W' :=
  ⟨h.c0.below hb, ⟨h.lab.1, own_below h.lab.2 hb⟩, h.rc, h.hB, Nat.le_trans h.hBl hb.size, h.lt, own_below h.row hb⟩
theorem ne_of_type {X : World} {b t : Nat} {cs : Array Value} (hb : Blk X b cs t) {B e k n : Nat} {v : Value} {xs : List Value} (h : X.ownsRow B e k v n xs) (ht : t ≠ e) : v.ownBlock ≠ some b := own_ne_blk h hb ht
theorem ChksO.boxset (h : ChksO 50 93 B v rs W) (hb : Blk W bc cs 50) (hne : v.ownBlock ≠ some bc) (j : Nat) (u : Value) : ChksO 50 93 B v rs (W.setCell ⟨bc, j, none⟩ u) :=
  ⟨ownsRow_setCell_other h.own hne _, fun q hq => ⟨(h.labs q hq).1, ownsRow_setCell_other (h.labs q hq).2 (ne_of_type hb (h.labs q hq).2 (by decide)) _⟩, fun q hq => ⟨(h.rows q hq).1, ownsRow_setCell_other (h.rows q hq).2 (ne_of_type hb (h.rows q hq).2 (by decide)) _⟩⟩
theorem C0.set (h : C0 B w7 v rs bc cs W) (j : Nat) (u : Value) : C0 B w7 v rs bc (cs.set! j u) (W.setCell ⟨bc, j, none⟩ u) :=
  ⟨h.out.boxset h.box h.ne j u, h.box.set j u, h.ne, h.hbc, h.low.setCell (p := ⟨bc, j, none⟩) h.hbc u, by have := h.sz; simp [World.setCell]; omega⟩
/-- The box's rows grow by one. -/
theorem CI.grow {A2 : Option Addr} {c2 : Nat} {x : S71} (h : CI B w7 v rs r bc Bl W) (hg : W.grownBy W' (Value.slice r.A2 r.rows.length r.c2).ownBlock) (ho : W'.ownsRow Bl 93 3 (.slice A2 (r.rows.length + 1) c2) (r.rows.length + 1) (rcells r.rows ++ [.int .i64 x.f0, .int .i64 x.f1, .string x.f2])) (hc : r.rows.length + 1 ≤ c2) :
    Blk W' bc (boxC r) 50 ∧ CI B w7 v rs ⟨r.A1, r.c1, r.ls, A2, c2, r.rows ++ [x]⟩ bc Bl (W'.setCell ⟨bc, 1, none⟩ (.slice A2 (r.rows.length + 1) c2)) := by
  have hbx := Blk.grown h.c0.box hg (ne_of_type h.c0.box h.row (by decide))
  have hlx : (r.rows ++ [x]).length = r.rows.length + 1 := by simp
  have hrx : rcells (r.rows ++ [x]) = rcells r.rows ++ [.int .i64 x.f0, .int .i64 x.f1, .string x.f2] := by unfold rcells; rw [List.flatMap_append]; simp
  have hc0 : C0 B w7 v rs bc (boxC r) W' := ⟨h.c0.out.growE h.hB (by decide) (by decide) h.lt h.row hg, hbx, h.c0.ne, h.c0.hbc, h.c0.low.grown hg h.c0.sz (fun k e => Nat.le_trans h.hB (own_ge h.row e)), Nat.le_trans h.c0.sz hg.size⟩
  have hl' := own_grown (own_le h.row h.hB) hg h.lab.2 (by decide)
  refine ⟨hbx, ?_, ⟨h.lab.1, ownsRow_setCell_other hl' (ne_of_type hbx hl' (by decide)) _⟩, by rw [hlx]; exact hc, h.hB, by have := h.hBl; have := hg.size; simp [World.setCell]; omega, h.lt, ?_⟩
  · have := hc0.set 1 (.slice A2 (r.rows.length + 1) c2)
    simpa [boxC] using this
  · rw [hlx, hrx]
    exact ownsRow_setCell_other ho (ne_of_type hbx ho (by decide)) _
/-- The box's chunk is put behind the others. -/
theorem CI.push (h : CI B w7 v rs r bc Bl W) (ho : W'.ownsRow B 50 2 v' (rs.length + 1) (rs.flatMap RK.cells ++ r.cells)) (hg : W.grownBy W' v.ownBlock) (hw : ∀ j, v'.ownBlock = some j → v.ownBlock = some j ∨ W.heap.size ≤ j) : C0 B w7 v' (rs ++ [r]) bc (boxC r) W' :=
  ⟨h.c0.out.snoc (by decide) (by decide) ho hg h.lab ⟨h.rc, own_le h.row h.hB⟩, Blk.grown h.c0.box hg h.c0.ne, fun e => by
    rcases hw bc e with h1 | h1
    · exact h.c0.ne h1
    · have := h.c0.box.lt; omega, h.c0.hbc, h.c0.low.grown hg h.c0.sz (fun k e => own_ge h.c0.out.own e), Nat.le_trans h.c0.sz hg.size⟩
/-- A new chunk of no rows in the box. -/
theorem C0.fresh {A1 : Option Addr} {c1 : Nat} {ls : List S112} (h : C0 B w7 v rs bc (boxC ⟨A1, c1, ls, none, 0, []⟩) W) (hl : ls.length ≤ c1 ∧ W.ownsRow B 112 2 (.slice A1 ls.length c1) ls.length (lcells ls)) : CI B w7 v rs ⟨A1, c1, ls, none, 0, []⟩ bc W.heap.size W :=
  ⟨h, hl, Nat.le_refl _, h.sz, Nat.le_refl _, LtB.of h.out (Nat.le_refl _), World.ownsRow_nil _ _ _ _⟩
theorem C0.new (h : ChksO 50 93 B v rs W) (low : Below B w7 W) (sz : B ≤ W.heap.size) (cs : Array Value) : C0 B w7 v rs W.heap.size cs (W.alloc (.cells cs 50)) :=
  ⟨h.below ((Below.refl _ _).alloc (Nat.le_refl _) _), Blk.new _ _ _ _ rfl, fun e => by have := own_lt h.own e; omega, sz, low.alloc sz _, by simp; omega⟩
end
end Go.Proofs.YtojocffjajcdmaaDoor.RF
