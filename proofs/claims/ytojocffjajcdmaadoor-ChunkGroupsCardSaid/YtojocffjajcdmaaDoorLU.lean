/- record.Sort: the entries in their order, of labels of their own. -/
import Derived.Test.YtojocffjajcdmaaDoorLT
import Derived.Test.YtojocffjajcdmaaDoorLS
namespace Go.Proofs.YtojocffjajcdmaaDoor
open Go.RowKit Go.Proofs.YtojocffjajcdmaaDoorW.PrintWords Go.Proofs.YtojocffjajcdmaaDoorW.PrintLast Go.Proofs.YtojocffjajcdmaaDoorW.PrintMore PChunkAll
set_option linter.unusedVariables false
set_option linter.unusedSimpArgs false

/-! ### Their order -/
def cfE (x y : RE) : Int := cmpE x.x.f0 x.x.f1 y.x.f0 y.x.f1
def ltE (x y : S33) : Bool := decide (cmpE x.f0 x.f1 y.f0 y.f1 < 0)
def sortE (l : List S33) : List S33 := ST.srt ltE l
theorem ltE_swo : Go.Sort.SWO ltE := by
  refine ⟨fun x => ?_, fun x y z h1 h2 => ?_, fun x y z h1 h2 => ?_⟩
  · simp only [ltE, decide_eq_false_iff_not, cmpE_lt]; omega
  · simp only [ltE, decide_eq_true_eq, cmpE_lt] at *; omega
  · simp only [ltE, decide_eq_false_iff_not, cmpE_lt] at *; omega
theorem cfE_swo : Go.Sort.SWO (ltOf cfE) := ⟨fun x => ltE_swo.irrefl x.x, fun x y z => ltE_swo.trans x.x y.x z.x, fun x y z => ltE_swo.ntrans x.x y.x z.x⟩
theorem sortE_len (l : List S33) : (sortE l).length = l.length := ST.srt_length _ _
theorem sortE_perm (l : List S33) : (sortE l).Perm l := ST.srt_perm _ _

/-! ### A row of one's own while its labels are cloned -/
structure SoI (w : World) (g n cap : Nat) (l : List S33) (i : Nat) (rs : List RE) (wr : World) : Prop where
  len : rs.length = n
  map : rs.map (·.x) = l
  tags : rs.map (·.tg) = List.range n
  own : wr.ownsRow w.heap.size 33 4 (.slice (some ⟨g, 0, none⟩) n cap) n (rs.flatMap RE.cells)
  new : ∀ k (h : k < rs.length), k < i → wr.ownsRow (g + 1) 112 2 (.slice rs[k].A rs[k].x.f2.length rs[k].c) rs[k].x.f2.length (lcells rs[k].x.f2)
  old : ∀ k (h : k < rs.length), i ≤ k → Kd.C k112 w rs[k].A rs[k].x.f2.length rs[k].x.f2
  below : Below w.heap.size w wr
  lg : w.heap.size ≤ g
  gl : g < wr.heap.size


theorem SoI.step {w wr w1 : World} {g n cap i : Nat} {l : List S33} {rs : List RE} {A2 : Option Addr} {c2 : Nat} (h : SoI w g n cap l i rs wr) (hi : i < rs.length)
    (ho : w1.ownsRow wr.heap.size 112 2 (.slice A2 rs[i].x.f2.length c2) rs[i].x.f2.length (lcells rs[i].x.f2)) (hb : Below wr.heap.size wr w1) :
    SoI w g n cap l (i + 1) (rs.set i ⟨rs[i].x, A2, c2, rs[i].tg⟩) (w1.setCell ⟨g, i * 4 + 2, none⟩ (.slice A2 rs[i].x.f2.length c2)) := by
  have hg := h.gl
  have hlen := h.len
  refine ⟨by rw [List.length_set]; exact h.len, ?_, ?_, ?_, ?_, ?_, ?_, h.lg, ?_⟩
  · rw [List.map_set, ← h.map]
    apply List.ext_getElem
    · simp
    · intro k h1 h2
      rw [List.getElem_set]
      split
      · rename_i e; subst e; simp
      · rfl
  · rw [List.map_set, ← h.tags]
    apply List.ext_getElem
    · simp
    · intro k h1 h2
      rw [List.getElem_set]
      split
      · rename_i e; subst e; simp
      · rfl
  · have h2 := (own_below h.own hb).stored (i * 4 + 2) (.slice A2 rs[i].x.f2.length c2)
    rw [flat_set RE.cells 4 RE.cells_len rs i 2 _ ⟨rs[i].x, A2, c2, rs[i].tg⟩ hi (by omega) rfl] at h2
    exact h2.1
  · intro k hk hki
    rw [List.length_set] at hk
    by_cases e : k = i
    · subst e
      simp only [List.getElem_set_self]
      exact ownsRow_setCell_below (own_le ho (by omega)) (by show g < g + 1; omega) _
    · rw [List.getElem_set_ne (by omega)]
      exact ownsRow_setCell_below (own_below (h.new k hk (by omega)) hb) (by show g < g + 1; omega) _
  · intro k hk hki
    rw [List.length_set] at hk
    rw [List.getElem_set_ne (by omega)]
    exact h.old k hk (by omega)
  · exact (below_step h.below hb).setCell (p := ⟨g, i * 4 + 2, none⟩) h.lg _
  · have := hb.size
    show g < (w1.setCell _ _).heap.size
    simp [World.setCell]
    omega
theorem SoI.cell {w wr : World} {g n cap i : Nat} {l : List S33} {rs : List RE} (h : SoI w g n cap l i rs wr) (k j : Nat) (hk : k < rs.length) (hj : j < 4) : wr.cell? ⟨g, k * 4 + j, none⟩ = (rs[k].cells)[j]? := by
  have hl := h.len
  rw [h.own.cellAt (k * 4 + j) (by omega), flat_get RE.cells 4 RE.cells_len rs k j hk hj]
theorem SoI.frz {w wr : World} {g n cap i : Nat} {l : List S33} {rs : List RE} (h : SoI w g n cap l i rs wr) (j : Nat) : wr.frozen? ⟨g, j, none⟩ = false := h.own.frozenAt j
/-- Ahead of the sort. -/
theorem SoI.sb {w wr : World} {g n cap i : Nat} {l : List S33} {rs : List RE} (h : SoI w g n cap l i rs wr) : ST.SB RE.cells 4 wr g 0 rs.toArray wr := by
  refine ST.SB.start RE.cells_len RE.cells_one ?_ h.gl
  intro j hj
  rw [Go.Sort.size_flatK] at hj
  have hl := h.len
  have hj' : j < rs.length * 4 := by simpa using hj
  have hq : j / 4 < rs.length := by omega
  have e : j = j / 4 * 4 + j % 4 := by omega
  rw [Nat.zero_add, Go.Sort.get_flatK _ _ _ j hj]
  refine ⟨?_, h.frz j⟩
  conv => lhs; rw [e]
  rw [h.cell (j / 4) (j % 4) hq (by omega)]
  have e2 : rs.toArray[j / 4]! = rs[j / 4] := by rw [getElem!_pos rs.toArray (j / 4) (by simpa using hq)]; simp
  rw [e2]
  have h4 : j % 4 < (rs[j / 4].cells).length := by rw [RE.cells_len]; omega
  rw [List.getElem?_eq_getElem h4, bang_of _ _ h4]; rfl
theorem SoI.asc {w wr : World} {g n cap i : Nat} {l : List S33} {rs : List RE} (h : SoI w g n cap l i rs wr) : ST.Asc RE.tg 0 rs.toArray.size rs.toArray := by
  intro p q _ hpq hq
  have hq' : q < rs.length := by simpa using hq
  have e : ∀ k (hk : k < rs.length), rs.toArray[k]!.tg = k := by
    intro k hk
    rw [getElem!_pos rs.toArray k (by simpa using hk)]
    have h1 : (rs.map (·.tg))[k]'(by simpa using hk) = k := by simp [h.tags]
    simpa using h1
  rw [e p (by omega), e q hq']; exact hpq

/-- How entries are compared. -/
theorem cmp_order (w0 : World) (blk off n : Nat) : ST.CmpB Tryd.prog 110 #[.agg #[]] #[] RE.cells 4 cfE w0 blk off n := by
  intro dk W hS hs x y
  exact order_any x.x.f0 x.x.f1 y.x.f0 y.x.f1 _ _ _ _ #[] W
end Go.Proofs.YtojocffjajcdmaaDoor
/- record.Sort: walked. -/
namespace Go.Proofs.YtojocffjajcdmaaDoor
open Go.RowKit Go.Proofs.YtojocffjajcdmaaDoorW.PrintWords Go.Proofs.YtojocffjajcdmaaDoorW.PrintLast Go.Proofs.YtojocffjajcdmaaDoorW.PrintMore PChunkAll
set_option linter.unusedVariables false
set_option linter.unusedSimpArgs false

theorem ins_nil (A : Option Addr) (c : Nat) (f : Value) (w : World) : Calls Tryd.prog 176 #[.slice A 0 c, .int .i64 0, .int .i64 0, f] w fun e w' => e = .returned (.tuple #[]) ∧ w' = w := by
  go_enter Tryd.func176, Tryd.ntmps176
  go_wp2
  refine wp_loop_rounds 1 ?_
  rw [rounds_succ]
  go_wp2
  go_end0
  exact ⟨rfl, rfl⟩
theorem stable_nil (A : Option Addr) (c : Nat) (f : Value) (w : World) : Calls Tryd.prog 150 #[.slice A 0 c, .int .i64 0, f] w fun e w' => e = .returned (.tuple #[]) ∧ w' = w := by
  go_enter Tryd.func150, Tryd.ntmps150
  go_wp2
  refine wp_loop_rounds 1 ?_
  rw [rounds_succ]
  go_wp2_with (go_at_call 176; (with_reducible refine (ins_nil _ _ _ _).mono ?_); rintro e w1 ⟨rfl, rfl⟩)
  refine wp_loop_rounds 1 ?_
  rw [rounds_succ]
  go_wp2
  go_end0
  exact ⟨rfl, rfl⟩
theorem sort_nil (A : Option Addr) (c : Nat) (f : Value) (w : World) : Calls Tryd.prog 111 #[.slice A 0 c, f] w fun e w' => e = .returned (.tuple #[]) ∧ w' = w := by
  go_enter Tryd.func111, Tryd.ntmps111
  go_wp2_with (go_at_call 150; (with_reducible refine (stable_nil _ _ _ _).mono ?_); rintro e w1 ⟨rfl, rfl⟩)
  go_end0
  exact ⟨rfl, rfl⟩

end Go.Proofs.YtojocffjajcdmaaDoor
