import Derived.Test.YtojocffjajcdmaaDoorPPostingsNilx8
import Derived.Test.YtojocffjajcdmaaDoorPPostingsNilx1
import Derived.Lib.Hide
import Derived.Test.YtojocffjajcdmaaDoorMNA
import Derived.Lib.QuietBelow
import Derived.Test.YtojocffjajcdmaaDoorTie
import Derived.Test.YtojocffjajcdmaaDoorCards
import Derived.ProofKit
import Derived.OpenShut
import Derived.JoinedCond
import Derived.Deep.Slices
import Derived.Lib.SmallJoins
import Derived.SizedLaws
import Derived.Lib.LaidIn
import Derived.Lib.LaidU8T
import Derived.Deep.DeepHandedRow
import Derived.Deep.DeepWitnessRowRef
namespace Go.Proofs.YtojocffjajcdmaaDoor.PN
open Go.RowKit Go.Proofs.YtojocffjajcdmaaDoorW.PrintWords Go.Proofs.YtojocffjajcdmaaDoorW.PrintLast Go.Proofs.YtojocffjajcdmaaDoorW.PrintMore
set_option linter.unusedVariables false
set_option linter.unusedSimpArgs false
set_option maxRecDepth 100000

/-! ### An index that is none, or that nobody made -/
/-- No index, or one whose labels were never made. -/
def NoIdx (w : World) (v : Value) : Prop := v = .pointer none ∨ ∃ b, v = .pointer (some ⟨b, 0, none⟩) ∧ w.cell? ⟨b, 0, none⟩ = some (.map none)
theorem map_nil_eq (w : World) : (binOp .eql 119 (.map none) (.map none)).run Tryd.prog w = .ok (.bool true) w := by kernel_rfl
theorem none_any (v : Value) (w : World) (h : NoIdx w v) : Calls Tryd.prog 123 #[v] w fun e w' => e = .returned (.bool true) ∧ w' = w := by
  have hm := map_nil_eq w
  rcases h with rfl | ⟨b, rfl, hc⟩
  all_goals
    go_enter Tryd.func123, Tryd.ntmps123
    go_wp2
    go_ret
    exact ⟨rfl, rfl⟩
theorem labels_none (v : Value) (n : Int) (w : World) (h : NoIdx w v) : Calls Tryd.prog 69 #[v, .int .i64 n] w fun e w' => e = .returned (.tuple #[.slice none 0 0, .int .i64 1]) ∧ w' = w := by
  have H := Lib.hid h
  clear h
  go_enter Tryd.func69, Tryd.ntmps69
  go_wp2_with (go_at_call 123; (with_reducible refine (none_any _ _ H.out).mono ?_); rintro e w' ⟨rfl, rfl⟩)
  go_ret2
  exact ⟨rfl, rfl⟩
theorem add_none (v x : Value) (n : Int) (w : World) (h : NoIdx w v) : Calls Tryd.prog 66 #[v, .int .i64 n, x] w fun e w' => e = .returned (.int .i64 1) ∧ w' = w := by
  have H := Lib.hid h
  clear h
  go_enter Tryd.func66, Tryd.ntmps66
  go_wp2_with (go_at_call 123; (with_reducible refine (none_any _ _ H.out).mono ?_); rintro e w' ⟨rfl, rfl⟩)
  go_ret
  exact ⟨rfl, rfl⟩
theorem remove_none (v : Value) (n : Int) (w : World) (h : NoIdx w v) : Calls Tryd.prog 65 #[v, .int .i64 n] w fun e w' => e = .returned (.int .i64 1) ∧ w' = w := by
  have H := Lib.hid h
  clear h
  go_enter Tryd.func65, Tryd.ntmps65
  go_wp2_with (go_at_call 69; (with_reducible refine (labels_none _ _ _ H.out).mono ?_); rintro e w' ⟨rfl, rfl⟩)
  go_ret
  exact ⟨rfl, rfl⟩
theorem all_none (v : Value) (w : World) (h : NoIdx w v) : Calls Tryd.prog 75 #[v] w fun e w' => e = .returned (.slice none 0 0) ∧ w' = w := by
  have H := Lib.hid h
  clear h
  go_enter Tryd.func75, Tryd.ntmps75
  go_wp2_with (go_at_call 123; (with_reducible refine (none_any _ _ H.out).mono ?_); rintro e w' ⟨rfl, rfl⟩)
  go_ret
  exact ⟨rfl, rfl⟩
theorem of_none (v x y : Value) (w : World) (h : NoIdx w v) : Calls Tryd.prog 68 #[v, x, y] w fun e w' => e = .returned (.slice none 0 0) ∧ w' = w := by
  have H := Lib.hid h
  clear h
  go_enter Tryd.func68, Tryd.ntmps68
  go_wp2_with (go_at_call 123; (with_reducible refine (none_any _ _ H.out).mono ?_); rintro e w' ⟨rfl, rfl⟩)
  go_ret
  exact ⟨rfl, rfl⟩
theorem with_none (v x : Value) (w : World) (h : NoIdx w v) : Calls Tryd.prog 73 #[v, x] w fun e w' => e = .returned (.slice none 0 0) ∧ w' = w := by
  have H := Lib.hid h
  clear h
  go_enter Tryd.func73, Tryd.ntmps73
  go_wp2_with (go_at_call 123; (with_reducible refine (none_any _ _ H.out).mono ?_); rintro e w' ⟨rfl, rfl⟩)
  go_ret
  exact ⟨rfl, rfl⟩
theorem names_none (v : Value) (w : World) (h : NoIdx w v) : Calls Tryd.prog 76 #[v] w fun e w' => e = .returned (.slice none 0 0) ∧ w' = w := by
  have H := Lib.hid h
  clear h
  go_enter Tryd.func76, Tryd.ntmps76
  go_wp2_with (go_at_call 123; (with_reducible refine (none_any _ _ H.out).mono ?_); rintro e w' ⟨rfl, rfl⟩)
  go_ret
  exact ⟨rfl, rfl⟩
theorem values_none (v x : Value) (w : World) (h : NoIdx w v) : Calls Tryd.prog 67 #[v, x] w fun e w' => e = .returned (.slice none 0 0) ∧ w' = w := by
  have H := Lib.hid h
  clear h
  go_enter Tryd.func67, Tryd.ntmps67
  go_wp2_with (go_at_call 123; (with_reducible refine (none_any _ _ H.out).mono ?_); rintro e w' ⟨rfl, rfl⟩)
  go_ret
  exact ⟨rfl, rfl⟩
theorem num70 (n : Int) (w : World) : Calls Tryd.prog 70 #[.int .i64 n] w fun e w' => e = .returned (.int .i64 n) ∧ w' = w := by
  go_enter Tryd.func70, Tryd.ntmps70
  go_wp2
  go_ret
  exact ⟨rfl, rfl⟩
end Go.Proofs.YtojocffjajcdmaaDoor.PN
namespace Go.Proofs.YtojocffjajcdmaaDoor.PN
open Go.RowKit Go.Maps Go.Proofs.YtojocffjajcdmaaDoorW.PrintWords Go.Proofs.YtojocffjajcdmaaDoorW.PrintLast Go.Proofs.YtojocffjajcdmaaDoorW.PrintMore Go.Proofs.YtojocffjajcdmaaDoor.PPostingsNil Go.Sort Go.Lib
set_option linter.unusedVariables false
set_option linter.unusedSimpArgs false

theorem NoIdx.below {w w' : World} {v : Value} (h : NoIdx w v) (hb : Below w.heap.size w w') : NoIdx w' v := by
  rcases h with rfl | ⟨b, rfl, hc⟩
  · exact .inl rfl
  · exact .inr ⟨b, rfl, pw_cell_below hb hc⟩
def opC (kd id : Int) (A : Option Addr) (n c : Nat) (nm vl : ByteArray) : Array Value := #[.int .i64 kd, .int .i64 id, .slice A n c, .string nm, .string vl]
theorem Blk.below {w w' : World} {b t : Nat} {cs : Array Value} (h : Blk w b cs t) (hb : Below w.heap.size w w') : Blk w' b cs t := ⟨(hb.block b h.lt).trans h.out⟩
def NilRel (w : World) (cs : Array Value) (v3 v4 : Value) (wr : World) : Prop := ∃ k : Nat, v4 = .int .i64 (k : Int) ∧ k ≤ 2 ∧ NoIdx wr v3 ∧ Blk wr w.heap.size cs 102 ∧ Below w.heap.size w wr
theorem same_below {w : World} {w' : World} {P : Prop} (h : P ∧ w' = w) : P ∧ Below w.heap.size w w' := ⟨h.1, by rw [h.2]; exact Below.refl _ _⟩

set_option maxHeartbeats 4000000 in
set_option maxRecDepth 100000 in
theorem nil_any (kd id : Int) (A : Option Addr) (n c : Nat) (nm vl : ByteArray) (w : World) :
    Calls Tryd.prog 17 #[.agg #[.int .i64 kd, .int .i64 id, .slice A n c, .string nm, .string vl]] w (Bl true w) := by
  go_enter Tryd.func17, Tryd.ntmps17
  go_wp2
  go_loopw [3, 4] (fun v3 v4 wr => NilRel w (opC kd id A n c nm vl) v3 v4 wr) (fun _ v4 _ => 2 - (intOf v4).toNat)
  case atStart => exact ⟨0, rfl, by omega, .inl rfl, Blk.new w _ _ _ rfl, below_alloc (Below.refl _ _) _⟩
  case round =>
    obtain ⟨k, rfl, hk, hno, hblk, hb⟩ := hrel
    have HN := Lib.hid hno
    have HK := Lib.hid hblk
    have HB := Lib.hid hb
    clear hno hb
    by_cases hlt : k < 2
    · have hki : (k : Int) < 2 := by omega
      have c1 := hblk.cell 1 (.int .i64 id) rfl
      have c2 := hblk.cell 2 (.slice A n c) rfl
      have c3 := hblk.cell 3 (.string nm) rfl
      have c4 := hblk.cell 4 (.string vl) rfl
      clear hblk
      go_wp2_with (go_at_call 69; (with_reducible refine (labels_none _ _ _ HN.out).mono ?_); rintro e wr ⟨rfl, rfl⟩)
      obtain ⟨W, hW⟩ : ∃ W, W = wr := ⟨_, rfl⟩
      rw [← hW]
      subst hW
      have C1 := fun d os => cell_regrown c1 d os
      have C2 := fun d os => cell_regrown c2 d os
      have C3 := fun d os => cell_regrown c3 d os
      have C4 := fun d os => cell_regrown c4 d os
      have c66 := fun d os => Calls.regrown_of ((add_none _ (.slice A n c) id (Go.Sort.grow (redrawn W d) os) (HN.out.below (below_regrown W d os))).mono (fun e w' h => same_below h))
      have c65 := fun d os => Calls.regrown_of ((remove_none _ id (Go.Sort.grow (redrawn W d) os) (HN.out.below (below_regrown W d os))).mono (fun e w' h => same_below h))
      have c70 := fun m d os => Calls.regrown_of ((num70 m (Go.Sort.grow (redrawn W d) os)).mono (fun e w' h => same_below h))
      have c75 := fun d os => Calls.regrown_of ((all_none _ (Go.Sort.grow (redrawn W d) os) (HN.out.below (below_regrown W d os))).mono (fun e w' h => same_below h))
      have c68 := fun d os => Calls.regrown_of ((of_none _ (.string nm) (.string vl) (Go.Sort.grow (redrawn W d) os) (HN.out.below (below_regrown W d os))).mono (fun e w' h => same_below h))
      have c73 := fun d os => Calls.regrown_of ((with_none _ (.string nm) (Go.Sort.grow (redrawn W d) os) (HN.out.below (below_regrown W d os))).mono (fun e w' h => same_below h))
      have c76 := fun d os => Calls.regrown_of ((names_none _ (Go.Sort.grow (redrawn W d) os) (HN.out.below (below_regrown W d os))).mono (fun e w' h => same_below h))
      have c67 := fun d os => Calls.regrown_of ((values_none _ (.string nm) (Go.Sort.grow (redrawn W d) os) (HN.out.below (below_regrown W d os))).mono (fun e w' h => same_below h))
      clear c1 c2 c3 c4
      refine wp_region_quiet_below (by kernel_rfl) (by kernel_rfl) ?_
      repeat (first | go_big_quiet_step ((first | (go_at_call 66; with_reducible exact c66 _ _ ) | (go_at_call 70; with_reducible exact c70 _ _ _ ) | (go_at_call 65; with_reducible exact c65 _ _ ) | (go_at_call 75; with_reducible exact c75 _ _ ) | (go_at_call 68; with_reducible exact c68 _ _ ) | (go_at_call 73; with_reducible exact c73 _ _ ) | (go_at_call 76; with_reducible exact c76 _ _ ) | (go_at_call 67; with_reducible exact c67 _ _ ))) | quiet_step ((first | (go_at_call 66; with_reducible exact c66 _ _ ) | (go_at_call 70; with_reducible exact c70 _ _ _ ) | (go_at_call 65; with_reducible exact c65 _ _ ) | (go_at_call 75; with_reducible exact c75 _ _ ) | (go_at_call 68; with_reducible exact c68 _ _ ) | (go_at_call 73; with_reducible exact c73 _ _ ) | (go_at_call 76; with_reducible exact c76 _ _ ) | (go_at_call 67; with_reducible exact c67 _ _ ))))
      refine wpQuiet_nil ?_
      intro _ hw'
      obtain ⟨⟨dq, osq⟩, hw''⟩ := hw'
      subst hw''
      have HBQ := Lib.hid (below_regrown W dq osq)
      obtain ⟨V, hV⟩ : ∃ V, V = Go.Sort.grow (redrawn W dq) osq := ⟨_, rfl⟩
      simp only at *
      rw [← hV] at HBQ
      rw [← hV]
      clear hV C1 C2 C3 C4 c66 c65 c70 c75 c68 c73 c76 c67
      go_wp2
      go_roundw
      case rel => exact ⟨k + 1, by go_num, by omega, .inr ⟨V.heap.size, rfl, (Blk.new V _ _ _ rfl).cell 0 _ rfl⟩, HK.out.below (below_alloc HBQ.out _), below_alloc (bel HB.out HBQ.out) _⟩
      case measure => simp [intOf]; omega
    · have hki : ¬ (k : Int) < 2 := by omega
      clear hblk
      go_wp2_with (go_at_call 64; (with_reducible refine (knows_any _).mono ?_); rintro e w2 ⟨rfl, hb2⟩; have HB2 := Lib.hid (bel HB.out hb2); clear hb2)
      go_ret
      exact ⟨rfl, HB2.out⟩
end Go.Proofs.YtojocffjajcdmaaDoor.PN
namespace Go.Proofs.YtojocffjajcdmaaDoor.PN
open Go.Shelf Go.ChangeShapes Go.WideShapes Go.ChangeAt Go.RowKit Go.Lib Go.Joins
set_option linter.unusedVariables false
set_option maxRecDepth 100000

/-- The arguments read behind the call as before, where below the old heap nothing has turned. -/
theorem args_stay {H : Type} {enc : TypeId × Value → H} {P : Program} (hl : laidOutB P = true) {W W' : World} {sp : Nat → Bool} (hb : Below W.heap.size W W') :
    ∀ {ts : List TypeId} {vs : List Value} {ds : List (DataW H)} {ps : List MemPlace}, (∀ t ∈ ts, P.readableRec t = true ∧ t < P.types.size) → (∀ x ∈ ps, x.block < W.heap.size ∧ sp x.block = true) →
      DataW.TrodAll enc P W 0 (fun _ => true) true ts vs ds ps → DataW.TrodAll enc P W' 0 sp true ts vs ds ps
  | [], vs, ds, ps, ht, hx, h => by
    obtain ⟨rfl, rfl, rfl⟩ := trodAll_nil h
    exact trodAll_mk0
  | t :: ts, vs, ds, ps, ht, hx, h => by
    obtain ⟨v, vs1, d, ds1, a, b, rfl, rfl, rfl, h1, h2⟩ := trodAll_cons h
    have h0 := ht t List.mem_cons_self
    refine ⟨a, b, WideElems.Trod_stays hl h0.1 h0.2 h1 (fun x hm => hb.same (hx x (List.mem_append_left _ hm)).1) (fun x hm => (hx x (List.mem_append_left _ hm)).2), args_stay hl hb (fun t' h' => ht t' (List.mem_cons_of_mem _ h')) (fun x hm => hx x (List.mem_append_right _ hm)) h2, rfl⟩

/-- What a law's row asks behind a call that answered true and turned nothing that was there. -/
theorem law_post {H : Type} {enc : TypeId × Value → H} {P : Program} {f : Func} {s : ChangeSpec} {W W' : World} {args : Array Value} {ds gs : List (DataW H)} {before : List MemPlace} {tb : TypeId}
    (hl : laidOutB P = true) (hW : DataW.Whole enc P f.params.toList s.vars false W args.toList ds gs before) (hv : s.vars = []) (hp : ∀ t ∈ f.params.toList, P.readableRec t = true ∧ t < P.types.size)
    (hb : Below W.heap.size W W') (hres : f.resultTypes = #[tb]) (htb : P.underlying tb = some .bool) (hfn : s.fn H (ds ++ gs) = { results := [.lit (.bool true)], args := ds }) :
    s.post enc P f false true false false W args (.bool true) W' := by
  have hlt := fun x (hx : x ∈ before) => hW.lt x hx
  have hW0 := hW
  obtain ⟨p, q, hA, hV, rfl, hfz, hnd⟩ := hW
  rw [hv] at hV
  obtain ⟨rfl, rfl⟩ := trodVars_none hV
  refine ⟨ds, [], p ++ [], [], p, [], hW0, ?_, ?_, ?_, World.keptBut_mono (fun x hx => ⟨hx, .inr (.inl (by simpa using hx))⟩) (hb.frame (· ∈ p ++ [])), fun h => by cases h⟩
  · rw [hfn, hres]
    exact trodAll_mk1 (shut_bool htb true)
  · rw [hfn]
    exact args_stay hl hb hp (fun x hx => ⟨by simpa using hlt x (by simpa using hx), by simpa using hlt x (by simpa using hx)⟩) hA
  · rw [hfn, hv]
    rfl

theorem cells102 : Tryd.prog.cellsOf 102 = 5 := by kernel_rfl
section
variable {H : Type} {enc : TypeId × Value → H} {w : World} {held : Bool} {P : Program} {base : Nat} {spare : Nat → Bool}
theorem trod_struct5 {t : TypeId} {f0 f1 f2 f3 f4 : Field} {fuel : Nat} {cs : List Value} {x : DataW H × List MemPlace} (ht : P.underlying t = some (.struct #[f0, f1, f2, f3, f4])) (h : DataW.trod enc P w base spare held fuel t cs = some x) :
    ∃ y0 y1 y2 y3 y4 n, cs.length = P.cellsOf t ∧ DataW.trod enc P w base spare held n f0.type ((cs.drop f0.offset).take (P.cellsOf f0.type)) = some y0 ∧
      DataW.trod enc P w base spare held n f1.type ((cs.drop f1.offset).take (P.cellsOf f1.type)) = some y1 ∧ DataW.trod enc P w base spare held n f2.type ((cs.drop f2.offset).take (P.cellsOf f2.type)) = some y2 ∧
      DataW.trod enc P w base spare held n f3.type ((cs.drop f3.offset).take (P.cellsOf f3.type)) = some y3 ∧ DataW.trod enc P w base spare held n f4.type ((cs.drop f4.offset).take (P.cellsOf f4.type)) = some y4 := by
  obtain ⟨xs, n, _, rfl, hl, hlen, hf⟩ := DataW.trod_struct ht h
  match xs, hlen with
  | [y0, y1, y2, y3, y4], _ => exact ⟨y0, y1, y2, y3, y4, n, hl, by simpa using hf 0 f0 rfl, by simpa using hf 1 f1 rfl, by simpa using hf 2 f2 rfl, by simpa using hf 3 f3 rfl, by simpa using hf 4 f4 rfl⟩
/-- An operation read. -/
theorem open_op {r : Reach} {b0 : Nat} {v : Value} {d : DataW H} {p : List MemPlace} (hv : Value.okWide Tryd.prog w r b0 102 v) (h : DataW.Trod enc Tryd.prog w 0 (fun _ => true) held 102 v d p) :
    ∃ (kd id : Int) (A : Option Addr) (n c : Nat) (nm vl : ByteArray), v = .agg #[.int .i64 kd, .int .i64 id, .slice A n c, .string nm, .string vl] := by
  obtain ⟨cs, rfl, hsz⟩ := okWide_struct Tryd.underlying102 hv
  rw [cells102] at hsz
  obtain ⟨l⟩ := cs
  match l, hsz with
  | [c0, c1, c2, c3, c4], _ =>
    obtain ⟨fuel, hf⟩ := h
    obtain ⟨y0, y1, y2, y3, y4, n, _, h0, h1, h2, h3, h4⟩ := trod_struct5 Tryd.underlying102 hf
    have e3 : Tryd.prog.cellsOf 3 = 1 := by kernel_rfl
    have e9 : Tryd.prog.cellsOf 9 = 1 := by kernel_rfl
    have e31 : Tryd.prog.cellsOf 31 = 1 := by kernel_rfl
    simp only [Value.cells, e3, e9, e31, List.drop_zero, List.take_succ_cons, List.take_zero, List.drop_succ_cons] at h0 h1 h2 h3 h4
    obtain ⟨s0, k0, _, _⟩ := DataW.trod_int Tryd.underlying3 h0
    obtain ⟨s1, k1, _, _⟩ := DataW.trod_int Tryd.underlying3 h1
    obtain ⟨s3, k3, _, _⟩ := DataW.trod_string Tryd.underlying9 h3
    obtain ⟨s4, k4, _, _⟩ := DataW.trod_string Tryd.underlying9 h4
    simp at k0 k1 k3 k4
    subst k0; subst k1; subst k3; subst k4
    rcases Deep.open_slice Tryd.underlying31 h2 with ⟨hcs, _⟩ | ⟨a, len, cap, m, n', D, Pl, hcs, _⟩
    · simp at hcs
      subst hcs
      exact ⟨_, _, none, 0, 0, _, _, rfl⟩
    · simp at hcs
      subst hcs
      exact ⟨_, _, some a, len, cap, _, _, rfl⟩
end

theorem ownKnob_none : ownKnob Tryd.prog.godebug = none := by kernel_rfl
theorem laidOut : laidOutB Tryd.prog = true := by kernel_rfl
abbrev seatLaid : List (String × DataW Unit) := [("unicode/utf8.acceptRanges", Rows.laid_unicode_utf8_acceptRanges), ("unicode/utf8.first", Rows.laid_unicode_utf8_first)]

/-- THE WITNESS: the settled world, the two variables holding what their initialisers lay. -/
noncomputable def laidWorld (os : Os) : World :=
  let w0 := World.holding Tryd.prog os ⟨#[], #[], []⟩
  let put (h : Array Obj) (g : Nat) (cs : Array Value) : Array Obj := h.modify g fun
    | .cells _ t frozen => .cells cs t frozen
    | o => o
  let h1 := put w0.heap 0 (Lib.firstTab.map fun z => Value.int .u8 z).toArray
  let h2 := put h1 1 ((List.range 16).flatMap fun i => [Value.int .u8 (Lib.accLo i), Value.int .u8 (Lib.accHi i)]).toArray
  { w0 with heap := h2 }
theorem laid_met (os : Os) (args : Array Value) : laidMet Tryd.prog seatLaid ((laidWorld os).forCall (fun _ _ => 0) ⟨#[], args, []⟩).memory :=
  (LaidIn.of_run (l := seatLaid) [0, 1] 8 (by kernel_rfl) (by kernel_rfl) (by kernel_rfl) (by kernel_rfl)).met
end Go.Proofs.YtojocffjajcdmaaDoor.PN
