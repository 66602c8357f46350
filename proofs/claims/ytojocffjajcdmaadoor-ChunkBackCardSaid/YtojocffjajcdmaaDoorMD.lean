import Derived.Test.YtojocffjajcdmaaDoorMA
import Derived.ProofKit
import Derived.OpenShut
import Derived.JoinedCond
import Derived.Deep.Slices
import Derived.Lib.SmallJoins
import Derived.SizedLaws
import Derived.Test.YtojocffjajcdmaaDoorTie
import Derived.Test.YtojocffjajcdmaaDoorCards
import Derived.Lib.LaidIn
import Derived.Lib.LaidU8T
import Derived.Deep.DeepHandedRow
import Derived.Deep.DeepWitnessRowRef
namespace Go.Proofs.YtojocffjajcdmaaDoor
open Go.ChangeShapes Go.WideShapes Go.ChangeAt Go.RowKit Go.Proofs.YtojocffjajcdmaaDoorW.PrintWords Go.Proofs.YtojocffjajcdmaaDoorW.PrintLast Go.Proofs.YtojocffjajcdmaaDoorW.PrintMore PChunkAll
set_option linter.unusedVariables false
set_option linter.unusedSimpArgs false

theorem cells33 : Tryd.prog.cellsOf 33 = 4 := by kernel_rfl
theorem cells112 : Tryd.prog.cellsOf 112 = 2 := by kernel_rfl
theorem cells9 : Tryd.prog.cellsOf 9 = 1 := by kernel_rfl
theorem cells3 : Tryd.prog.cellsOf 3 = 1 := by kernel_rfl
theorem cells31 : Tryd.prog.cellsOf 31 = 1 := by kernel_rfl
theorem bytes112 : Tryd.prog.bytesOf 112 = 32 := by kernel_rfl
theorem bytes33 : Tryd.prog.bytesOf 33 = 56 := by kernel_rfl

/-- The arguments read behind the call as before, where below the old heap nothing has turned. -/
theorem args_stay {H : Type} {enc : TypeId × Value → H} {P : Program} (hl : laidOutB P = true) {W W' : World} {sp : Nat → Bool} (hb : Below W.heap.size W W') :
    ∀ {ts : List TypeId} {vs : List Value} {ds : List (DataW H)} {ps : List MemPlace}, (∀ t ∈ ts, P.readableRec t = true ∧ t < P.types.size) → (∀ x ∈ ps, x.block < W.heap.size ∧ sp x.block = true) →
      DataW.TrodAll enc P W 0 (fun _ => true) true ts vs ds ps → DataW.TrodAll enc P W' 0 sp true ts vs ds ps
  | [], vs, ds, ps, ht, hx, h => by
    obtain ⟨rfl, rfl, rfl⟩ := trodAll_nil h
    exact trodAll_mk0
  | t :: ts, vs, ds, ps, ht, hx, h => by
    obtain ⟨v, vs1, d, ds1, a, b, rfl, rfl, rfl, h1, h2⟩ := trodAll_cons h
    have h0 := ht t List.mem_cons_self
    refine ⟨a, b, WideElems.Trod_stays hl h0.1 h0.2 h1 (fun x hm => hb.same (hx x (List.mem_append_left _ hm)).1) (fun x hm => (hx x (List.mem_append_left _ hm)).2), args_stay hl hb (fun t' h' => ht t' (List.mem_cons_of_mem _ h')) (fun x hm => hx x (List.mem_append_right _ hm)) h2, rfl⟩

/-- What a law's row asks behind a call that answered true and turned nothing that was there. -/
theorem law_post {H : Type} {enc : TypeId × Value → H} {P : Program} {f : Func} {s : ChangeSpec} {W W' : World} {args : Array Value} {ds gs : List (DataW H)} {before : List MemPlace} {tb : TypeId}
    (hl : laidOutB P = true) (hW : DataW.Whole enc P f.params.toList s.vars false W args.toList ds gs before) (hv : s.vars = []) (hp : ∀ t ∈ f.params.toList, P.readableRec t = true ∧ t < P.types.size)
    (hb : Below W.heap.size W W') (hres : f.resultTypes = #[tb]) (htb : P.underlying tb = some .bool) (hfn : s.fn H (ds ++ gs) = { results := [.lit (.bool true)], args := ds }) :
    s.post enc P f false true false false W args (.bool true) W' := by
  have hlt := fun x (hx : x ∈ before) => hW.lt x hx
  have hW0 := hW
  obtain ⟨p, q, hA, hV, rfl, hfz, hnd⟩ := hW
  rw [hv] at hV
  obtain ⟨rfl, rfl⟩ := trodVars_none hV
  refine ⟨ds, [], p ++ [], [], p, [], hW0, ?_, ?_, ?_, World.keptBut_mono (fun x hx => ⟨hx, .inr (.inl (by simpa using hx))⟩) (hb.frame (· ∈ p ++ [])), fun h => by cases h⟩
  · rw [hfn, hres]
    exact trodAll_mk1 (shut_bool htb true)
  · rw [hfn]
    exact args_stay hl hb hp (fun x hx => ⟨by simpa using hlt x (by simpa using hx), by simpa using hlt x (by simpa using hx)⟩) hA
  · rw [hfn, hv]
    rfl

section
variable {H : Type} {enc : TypeId × Value → H} {w : World} {held : Bool}

theorem cells_at {w : World} {base : Nat} {a : Addr} {n i : Nat} {cs : List Value} (h : w.cells? base a n = some cs) (hi : i < n) : ∃ h2 : i < cs.length, w.cell? (a.add i) = some cs[i] := by
  obtain ⟨_, hl, hc⟩ := World.cells?_some h
  have h2 : i < cs.length := by omega
  exact ⟨h2, by rw [hc i hi, List.getElem?_eq_getElem h2]⟩

/-- A row read, element by element. -/
theorem row_C {α : Type} (d : Kd α) (w : World) (a : Addr) (len sz : Nat) (f : Nat → α) (hsz : d.sz = sz) (hm : len ≤ 9223372036854775807) (hs0 : 0 < sz)
    (h : ∀ i, i < len → ∃ cs base, w.cells? base (a.add (i * sz)) sz = some cs ∧ d.K w (f i) cs) : Kd.C d w (some a) len ((List.range len).map f) := by
  refine ⟨by simp, hm, fun hn => ⟨a, rfl, fun j p hj => ?_⟩⟩
  have hjl : j < len := by
    have := (List.getElem?_eq_some_iff.1 hj).1
    simpa using this
  have hp : p = f j := by
    rw [List.getElem?_map, List.getElem?_range hjl] at hj
    simpa using hj.symm
  subst hp
  obtain ⟨cs, base, hc, hK⟩ := h j hjl
  have h0 : a = ⟨a.block, a.off, none⟩ := by
    obtain ⟨cs0, base0, hc0, _⟩ := h 0 (by omega)
    obtain ⟨_, k0⟩ := cells_at hc0 (i := 0) hs0
    rw [Nat.zero_mul] at k0
    exact spot_none (a := a) k0
  refine ⟨cs, d.K_len hK, hK, fun i u hu => ?_⟩
  have hl := d.K_len hK
  have hi : i < cs.length := (List.getElem?_eq_some_iff.1 hu).1
  obtain ⟨h2, k⟩ := cells_at hc (i := i) (by omega)
  rw [List.getElem?_eq_getElem h2] at hu
  injection hu with hu
  subst hu
  rw [h0, addr_add, addr_add] at k
  rw [h0, addr_add, hsz]
  rw [Nat.add_assoc] at k
  exact k

theorem list2 {cs : List Value} (h : cs.length = 2) : ∃ a b, cs = [a, b] := by
  rcases cs with _ | ⟨a, _ | ⟨b, _ | ⟨c, r⟩⟩⟩
  · simp at h
  · simp at h
  · exact ⟨a, b, rfl⟩
  · simp at h
theorem list4 {cs : List Value} (h : cs.length = 4) : ∃ a b c d, cs = [a, b, c, d] := by
  rcases cs with _ | ⟨a, _ | ⟨b, _ | ⟨c, _ | ⟨d, _ | ⟨e, r⟩⟩⟩⟩⟩
  · simp at h
  · simp at h
  · simp at h
  · simp at h
  · exact ⟨a, b, c, d, rfl⟩
  · simp at h
/-- A label read. -/
theorem open_label {n : Nat} {cs : List Value} {x : DataW H × List MemPlace} (h : DataW.trod enc Tryd.prog w 0 (fun _ => true) held n 112 cs = some x) : ∃ l : S112, cs = [.string l.f0, .string l.f1] := by
  obtain ⟨y0, y1, m, hx, hl, h0, h1⟩ := trod_struct2 Tryd.underlying112 h
  rw [cells112] at hl
  obtain ⟨c0, c1, rfl⟩ := list2 hl
  · simp only [cells9, List.drop_zero, List.take_succ_cons, List.take_zero, List.drop_succ_cons] at h0 h1
    obtain ⟨s0, e0, _, _⟩ := DataW.trod_string Tryd.underlying9 h0
    obtain ⟨s1, e1, _, _⟩ := DataW.trod_string Tryd.underlying9 h1
    simp at e0 e1
    subst e0; subst e1
    exact ⟨⟨s0, s1⟩, rfl⟩

theorem weights_all {P : Program} {e : TypeId} {d : DataW H} {l : List (DataW H)} (h : d ∈ l) : ∀ k ∈ d.weights P e, k ∈ DataW.weightsAll P e l := by
  induction l with
  | nil => cases h
  | cons a l ih =>
    intro k hk
    simp only [DataW.weightsAll, List.mem_append]
    rcases List.mem_cons.1 h with rfl | h
    · exact .inl hk
    · exact .inr (ih h k hk)

theorem C_nil {α : Type} (d : Kd α) (w : World) : Kd.C d w none 0 ([] : List α) := ⟨rfl, by decide, fun h => absurd h (Nat.lt_irrefl 0)⟩

/-- Labels read. -/
theorem open_labels {n : Nat} {v : Value} {x : DataW H × List MemPlace} (h : DataW.trod enc Tryd.prog w 0 (fun _ => true) held n 31 [v] = some x) (hz : ∀ k ∈ x.1.weights Tryd.prog 31, k ≤ reachBytes) :
    ∃ (A : Option Addr) (c : Nat) (ls : List S112), v = .slice A ls.length c ∧ Kd.C k112 w A ls.length ls ∧ ls.length ≤ c ∧ c * 32 ≤ reachBytes := by
  rcases Deep.open_slice Tryd.underlying31 h with ⟨hcs, hx⟩ | ⟨a, len, cap, m, n', D, Pl, hcs, _, hl, hm, hmm, rfl, hel⟩
  · injection hcs with hcs
    subst hcs
    exact ⟨none, 0, [], rfl, C_nil _ _, Nat.le_refl _, by simp⟩
  · injection hcs with hcs
    subst hcs
    simp only [if_true] at hmm
    subst hmm
    rw [cells112] at hel
    have hlab : ∀ i, i < len → ∃ l : S112, ∃ cs base, w.cells? base (a.add (i * 2)) 2 = some cs ∧ k112.K w l cs := by
      intro i hi
      obtain ⟨cs', h1, h2⟩ := hel i (by omega)
      obtain ⟨l, rfl⟩ := open_label h2
      exact ⟨l, _, _, h1, k112_mk w l⟩
    have : Inhabited S112 := ⟨z112⟩
    obtain ⟨f, hf⟩ := Deep.choose_lt hlab
    have hbytes : m * 32 ≤ reachBytes := by
      have := hz (m * 32) (by
        simp only [DataW.weights, Tryd.underlying31, List.mem_cons, bytes112, List.length_map, List.length_range]
        left; omega)
      exact this
    have hr := reachBytes_lt
    refine ⟨some a, m, (List.range len).map f, by simp, ?_, by simp; omega, hbytes⟩
    have := row_C k112 w a len 2 f rfl (by omega) (by decide) (fun i hi => hf i hi)
    simpa using this

/-- An entry read. -/
theorem open_ent {n : Nat} {cs : List Value} {x : DataW H × List MemPlace} (h : DataW.trod enc Tryd.prog w 0 (fun _ => true) held n 33 cs = some x) (hz : ∀ k ∈ x.1.weights Tryd.prog 33, k ≤ reachBytes) :
    ∃ e : S33, (k33.K w e cs) ∧ (-9223372036854775808 ≤ e.f0 ∧ e.f0 ≤ 9223372036854775807) ∧ e.f2.length * 32 ≤ reachBytes := by
  obtain ⟨y0, y1, y2, y3, m, rfl, hl, h0, h1, h2, h3⟩ := Joins.trod_struct4 Tryd.underlying33 h
  rw [cells33] at hl
  obtain ⟨c0, c1, c2, c3, rfl⟩ := list4 hl
  · simp only [cells9, cells3, cells31, List.drop_zero, List.take_succ_cons, List.take_zero, List.drop_succ_cons] at h0 h1 h2 h3
    obtain ⟨s, e0, _, w0⟩ := DataW.trod_int Tryd.underlying3 h0
    obtain ⟨t, e1, _, w1⟩ := DataW.trod_int Tryd.underlying3 h1
    obtain ⟨z, e3, _, _⟩ := DataW.trod_string Tryd.underlying9 h3
    obtain ⟨A, c, ls, rfl, hr, hlen, hb⟩ := open_labels h2 (fun k hk => hz k (by
      simp only [DataW.weights, Tryd.underlying33]
      exact DataW.weights_mem_each (j := 2) rfl rfl k hk))
    simp at e0 e1 e3
    subst e0; subst e1; subst e3
    exact ⟨⟨s, t, ls, z⟩, k33_mk w ⟨s, t, ls, z⟩ hlen hr, by have hw := w0; simp [Lit.wf] at hw; have hm : IntKind.i64.min = -9223372036854775808 := rfl; rw [hm] at hw; exact hw, by simp; omega⟩

/-- A row of entries read. -/
theorem open_ents {n : Nat} {v : Value} {x : DataW H × List MemPlace} (h : DataW.trod enc Tryd.prog w 0 (fun _ => true) held n 22 [v] = some x) (hz : ∀ k ∈ x.1.weights Tryd.prog 22, k ≤ reachBytes) :
    ∃ (A : Option Addr) (c : Nat) (l : List S33), v = .slice A l.length c ∧ Kd.C k33 w A l.length l ∧ l.length ≤ c ∧ EntsOk l := by
  rcases Deep.open_slice Tryd.underlying22 h with ⟨hcs, hx⟩ | ⟨a, len, cap, m, n', D, Pl, hcs, _, hl, hm, hmm, rfl, hel⟩
  · injection hcs with hcs
    subst hcs
    exact ⟨none, 0, [], rfl, C_nil _ _, Nat.le_refl _, by simp, fun k hk => by simp at hk, fun k hk => by simp at hk⟩
  · injection hcs with hcs
    subst hcs
    simp only [if_true] at hmm
    subst hmm
    rw [cells33] at hel
    have hent : ∀ i, i < len → ∃ e : S33, (∃ cs base, w.cells? base (a.add (i * 4)) 4 = some cs ∧ k33.K w e cs) ∧ (-9223372036854775808 ≤ e.f0 ∧ e.f0 ≤ 9223372036854775807) ∧ e.f2.length * 32 ≤ reachBytes := by
      intro i hi
      obtain ⟨cs', h1, h2⟩ := hel i (by omega)
      obtain ⟨e, hK, hs, hlb⟩ := open_ent h2 (fun k hk => hz k (by
        simp only [DataW.weights, Tryd.underlying22, List.mem_cons, List.mem_append]
        exact .inr (.inl (weights_all (d := D i) (List.mem_map_of_mem (List.mem_range.2 hi)) k hk))))
      exact ⟨e, ⟨_, _, h1, hK⟩, hs, hlb⟩
    have : Inhabited S33 := ⟨z33⟩
    obtain ⟨f, hf⟩ := Deep.choose_lt hent
    have hbytes : m * 56 ≤ reachBytes := by
      have := hz (m * 56) (by
        simp only [DataW.weights, Tryd.underlying22, List.mem_cons, bytes33, List.length_map, List.length_range]
        left; omega)
      exact this
    have hr := reachBytes_lt
    have hre : reachBytes = 140737488351232 := rfl
    have hget : ∀ k, k < len → ((List.range len).map f).getD k z33 = f k := fun k hk => by simp [hk]
    refine ⟨some a, m, (List.range len).map f, by simp, ?_, by simp; omega, by simp; omega, fun k hk => ?_, fun k hk => ?_⟩
    · have := row_C k33 w a len 4 f rfl (by omega) (by decide) (fun i hi => (hf i hi).1)
      simpa using this
    · have hk' : k < len := by simpa using hk
      rw [hget k hk']
      exact (hf k hk').2.1
    · have hk' : k < len := by simpa using hk
      rw [hget k hk']
      have := (hf k hk').2.2
      omega
end
end Go.Proofs.YtojocffjajcdmaaDoor
/-! What every row of this seat asks: the knob, the laid world, the two tables. -/
namespace Go.Proofs.YtojocffjajcdmaaDoor
open Go.Shelf Go.ChangeShapes Go.WideShapes Go.ChangeAt Go.RowKit Go.Lib
set_option linter.unusedVariables false

theorem ownKnob_none : ownKnob Tryd.prog.godebug = none := by kernel_rfl
theorem laidOut : laidOutB Tryd.prog = true := by kernel_rfl
abbrev seatLaid : List (String × DataW Unit) := [("unicode/utf8.acceptRanges", Rows.laid_unicode_utf8_acceptRanges), ("unicode/utf8.first", Rows.laid_unicode_utf8_first)]

/-- THE WITNESS: the settled world, the two variables holding what their initialisers lay. -/
noncomputable def laidWorld (os : Os) : World :=
  let w0 := World.holding Tryd.prog os ⟨#[], #[], []⟩
  let put (h : Array Obj) (g : Nat) (cs : Array Value) : Array Obj := h.modify g fun
    | .cells _ t frozen => .cells cs t frozen
    | o => o
  let h1 := put w0.heap 0 (Lib.firstTab.map fun z => Value.int .u8 z).toArray
  let h2 := put h1 1 ((List.range 16).flatMap fun i => [Value.int .u8 (Lib.accLo i), Value.int .u8 (Lib.accHi i)]).toArray
  { w0 with heap := h2 }
theorem laid_met (os : Os) (args : Array Value) : laidMet Tryd.prog seatLaid ((laidWorld os).forCall (fun _ _ => 0) ⟨#[], args, []⟩).memory :=
  (LaidIn.of_run (l := seatLaid) [0, 1] 8 (by kernel_rfl) (by kernel_rfl) (by kernel_rfl) (by kernel_rfl)).met
set_option maxRecDepth 100000 in
set_option maxHeartbeats 2000000 in
theorem tabs_of {W : World} (h : laidMet Tryd.prog seatLaid W) : Tabs W :=
  utf8Tabs_of_readsT (U8Types.of196 laysValid) ⟨by kernel_rfl, by kernel_rfl, by kernel_rfl, by kernel_rfl, by kernel_rfl, by kernel_rfl, by kernel_rfl⟩ (Lib.laidMet.reads h (.tail _ (.head _))) (Lib.laidMet.reads h (.head _))
end Go.Proofs.YtojocffjajcdmaaDoor
