import Derived.Test.YtojocffjajcdmaaDoorLA
import Derived.ProofKit
import Derived.OpenShut
import Derived.JoinedCond
import Derived.Deep.Slices
import Derived.Lib.SmallJoins
import Derived.SizedLaws
import Derived.Test.YtojocffjajcdmaaDoorTie
import Derived.Test.YtojocffjajcdmaaDoorCards
import Derived.Lib.LaidIn
import Derived.Lib.LaidU8T
import Derived.Deep.DeepHandedRow
import Derived.Deep.DeepWitnessRowRef
namespace Go.Proofs.YtojocffjajcdmaaDoor
open Go.ChangeShapes Go.WideShapes Go.ChangeAt Go.RowKit Go.Proofs.YtojocffjajcdmaaDoorW.PrintWords Go.Proofs.YtojocffjajcdmaaDoorW.PrintLast Go.Proofs.YtojocffjajcdmaaDoorW.PrintMore PChunkAll
set_option linter.unusedVariables false
set_option linter.unusedSimpArgs false

theorem cells33 : Tryd.prog.cellsOf 33 = 4 := by kernel_rfl
theorem cells112 : Tryd.prog.cellsOf 112 = 2 := by kernel_rfl
theorem cells9 : Tryd.prog.cellsOf 9 = 1 := by kernel_rfl
theorem cells3 : Tryd.prog.cellsOf 3 = 1 := by kernel_rfl
theorem cells31 : Tryd.prog.cellsOf 31 = 1 := by kernel_rfl
theorem bytes112 : Tryd.prog.bytesOf 112 = 32 := by kernel_rfl
theorem bytes33 : Tryd.prog.bytesOf 33 = 56 := by kernel_rfl

/-- The arguments read behind the call as before, where below the old heap nothing has turned. -/
theorem args_stay {H : Type} {enc : TypeId × Value → H} {P : Program} (hl : laidOutB P = true) {W W' : World} {sp : Nat → Bool} (hb : Below W.heap.size W W') :
    ∀ {ts : List TypeId} {vs : List Value} {ds : List (DataW H)} {ps : List MemPlace}, (∀ t ∈ ts, P.readableRec t = true ∧ t < P.types.size) → (∀ x ∈ ps, x.block < W.heap.size ∧ sp x.block = true) →
      DataW.TrodAll enc P W 0 (fun _ => true) true ts vs ds ps → DataW.TrodAll enc P W' 0 sp true ts vs ds ps
  | [], vs, ds, ps, ht, hx, h => by
    obtain ⟨rfl, rfl, rfl⟩ := trodAll_nil h
    exact trodAll_mk0
  | t :: ts, vs, ds, ps, ht, hx, h => by
    obtain ⟨v, vs1, d, ds1, a, b, rfl, rfl, rfl, h1, h2⟩ := trodAll_cons h
    have h0 := ht t List.mem_cons_self
    refine ⟨a, b, WideElems.Trod_stays hl h0.1 h0.2 h1 (fun x hm => hb.same (hx x (List.mem_append_left _ hm)).1) (fun x hm => (hx x (List.mem_append_left _ hm)).2), args_stay hl hb (fun t' h' => ht t' (List.mem_cons_of_mem _ h')) (fun x hm => hx x (List.mem_append_right _ hm)) h2, rfl⟩

/-- What a law's row asks behind a call that answered true and turned nothing that was there. -/
theorem law_post {H : Type} {enc : TypeId × Value → H} {P : Program} {f : Func} {s : ChangeSpec} {W W' : World} {args : Array Value} {ds gs : List (DataW H)} {before : List MemPlace} {tb : TypeId}
    (hl : laidOutB P = true) (hW : DataW.Whole enc P f.params.toList s.vars false W args.toList ds gs before) (hv : s.vars = []) (hp : ∀ t ∈ f.params.toList, P.readableRec t = true ∧ t < P.types.size)
    (hb : Below W.heap.size W W') (hres : f.resultTypes = #[tb]) (htb : P.underlying tb = some .bool) (hfn : s.fn H (ds ++ gs) = { results := [.lit (.bool true)], args := ds }) :
    s.post enc P f false true false false W args (.bool true) W' := by
  have hlt := fun x (hx : x ∈ before) => hW.lt x hx
  have hW0 := hW
  obtain ⟨p, q, hA, hV, rfl, hfz, hnd⟩ := hW
  rw [hv] at hV
  obtain ⟨rfl, rfl⟩ := trodVars_none hV
  refine ⟨ds, [], p ++ [], [], p, [], hW0, ?_, ?_, ?_, World.keptBut_mono (fun x hx => ⟨hx, .inr (.inl (by simpa using hx))⟩) (hb.frame (· ∈ p ++ [])), fun h => by cases h⟩
  · rw [hfn, hres]
    exact trodAll_mk1 (shut_bool htb true)
  · rw [hfn]
    exact args_stay hl hb hp (fun x hx => ⟨by simpa using hlt x (by simpa using hx), by simpa using hlt x (by simpa using hx)⟩) hA
  · rw [hfn, hv]
    rfl

section
variable {H : Type} {enc : TypeId × Value → H} {w : World} {held : Bool}

theorem cells_at {w : World} {base : Nat} {a : Addr} {n i : Nat} {cs : List Value} (h : w.cells? base a n = some cs) (hi : i < n) : ∃ h2 : i < cs.length, w.cell? (a.add i) = some cs[i] := by
  obtain ⟨_, hl, hc⟩ := World.cells?_some h
  have h2 : i < cs.length := by omega
  exact ⟨h2, by rw [hc i hi, List.getElem?_eq_getElem h2]⟩

/-- A row read, element by element. -/
theorem row_C {α : Type} (d : Kd α) (w : World) (a : Addr) (len sz : Nat) (f : Nat → α) (hsz : d.sz = sz) (hm : len ≤ 9223372036854775807) (hs0 : 0 < sz)
    (h : ∀ i, i < len → ∃ cs base, w.cells? base (a.add (i * sz)) sz = some cs ∧ d.K w (f i) cs) : Kd.C d w (some a) len ((List.range len).map f) := by
  refine ⟨by simp, hm, fun hn => ⟨a, rfl, fun j p hj => ?_⟩⟩
  have hjl : j < len := by
    have := (List.getElem?_eq_some_iff.1 hj).1
    simpa using this
  have hp : p = f j := by
    rw [List.getElem?_map, List.getElem?_range hjl] at hj
    simpa using hj.symm
  subst hp
  obtain ⟨cs, base, hc, hK⟩ := h j hjl
  have h0 : a = ⟨a.block, a.off, none⟩ := by
    obtain ⟨cs0, base0, hc0, _⟩ := h 0 (by omega)
    obtain ⟨_, k0⟩ := cells_at hc0 (i := 0) hs0
    rw [Nat.zero_mul] at k0
    exact spot_none (a := a) k0
  refine ⟨cs, d.K_len hK, hK, fun i u hu => ?_⟩
  have hl := d.K_len hK
  have hi : i < cs.length := (List.getElem?_eq_some_iff.1 hu).1
  obtain ⟨h2, k⟩ := cells_at hc (i := i) (by omega)
  rw [List.getElem?_eq_getElem h2] at hu
  injection hu with hu
  subst hu
  rw [h0, addr_add, addr_add] at k
  rw [h0, addr_add, hsz]
  rw [Nat.add_assoc] at k
  exact k

theorem list2 {cs : List Value} (h : cs.length = 2) : ∃ a b, cs = [a, b] := by
  rcases cs with _ | ⟨a, _ | ⟨b, _ | ⟨c, r⟩⟩⟩
  · simp at h
  · simp at h
  · exact ⟨a, b, rfl⟩
  · simp at h
theorem list4 {cs : List Value} (h : cs.length = 4) : ∃ a b c d, cs = [a, b, c, d] := by
  rcases cs with _ | ⟨a, _ | ⟨b, _ | ⟨c, _ | ⟨d, _ | ⟨e, r⟩⟩⟩⟩⟩
  · simp at h
  · simp at h
  · simp at h
  · simp at h
  · exact ⟨a, b, c, d, rfl⟩
  · simp at h
theorem weights_all {P : Program} {e : TypeId} {d : DataW H} {l : List (DataW H)} (h : d ∈ l) : ∀ k ∈ d.weights P e, k ∈ DataW.weightsAll P e l := by
  induction l with
  | nil => cases h
  | cons a l ih =>
    intro k hk
    simp only [DataW.weightsAll, List.mem_append]
    rcases List.mem_cons.1 h with rfl | h
    · exact .inl hk
    · exact .inr (ih h k hk)

theorem C_nil {α : Type} (d : Kd α) (w : World) : Kd.C d w none 0 ([] : List α) := ⟨rfl, by decide, fun h => absurd h (Nat.lt_irrefl 0)⟩

end
end Go.Proofs.YtojocffjajcdmaaDoor
/-! What every row of this seat asks: the knob, the laid world, the two tables. -/
namespace Go.Proofs.YtojocffjajcdmaaDoor
open Go.Shelf Go.ChangeShapes Go.WideShapes Go.ChangeAt Go.RowKit Go.Lib
set_option linter.unusedVariables false

theorem ownKnob_none : ownKnob Tryd.prog.godebug = none := by kernel_rfl
theorem laidOut : laidOutB Tryd.prog = true := by kernel_rfl
abbrev seatLaid : List (String × DataW Unit) := [("unicode/utf8.acceptRanges", Rows.laid_unicode_utf8_acceptRanges), ("unicode/utf8.first", Rows.laid_unicode_utf8_first)]

/-- THE WITNESS: the settled world, the two variables holding what their initialisers lay. -/
noncomputable def laidWorld (os : Os) : World :=
  let w0 := World.holding Tryd.prog os ⟨#[], #[], []⟩
  let put (h : Array Obj) (g : Nat) (cs : Array Value) : Array Obj := h.modify g fun
    | .cells _ t frozen => .cells cs t frozen
    | o => o
  let h1 := put w0.heap 0 (Lib.firstTab.map fun z => Value.int .u8 z).toArray
  let h2 := put h1 1 ((List.range 16).flatMap fun i => [Value.int .u8 (Lib.accLo i), Value.int .u8 (Lib.accHi i)]).toArray
  { w0 with heap := h2 }
theorem laid_met (os : Os) (args : Array Value) : laidMet Tryd.prog seatLaid ((laidWorld os).forCall (fun _ _ => 0) ⟨#[], args, []⟩).memory :=
  (LaidIn.of_run (l := seatLaid) [0, 1] 8 (by kernel_rfl) (by kernel_rfl) (by kernel_rfl) (by kernel_rfl)).met
set_option maxRecDepth 100000 in
set_option maxHeartbeats 2000000 in
theorem tabs_of {W : World} (h : laidMet Tryd.prog seatLaid W) : Tabs W :=
  utf8Tabs_of_readsT (U8Types.of196 laysValid) ⟨by kernel_rfl, by kernel_rfl, by kernel_rfl, by kernel_rfl, by kernel_rfl, by kernel_rfl, by kernel_rfl⟩ (Lib.laidMet.reads h (.tail _ (.head _))) (Lib.laidMet.reads h (.head _))
end Go.Proofs.YtojocffjajcdmaaDoor
