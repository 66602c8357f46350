import Derived.Test.YtojocffjajcdmaaDoorKB
import Derived.Test.YtojocffjajcdmaaDoorKD
import Derived.Test.YtojocffjajcdmaaDoorKZ
import Derived.Deep.Strs
import Derived.Carry
namespace Go.Proofs.YtojocffjajcdmaaDoor
open Go.ChangeShapes Go.WideShapes Go.ChangeAt Go.RowKit Go.Proofs.YtojocffjajcdmaaDoorW.PrintWords Go.Proofs.YtojocffjajcdmaaDoorW.PrintLast Go.Proofs.YtojocffjajcdmaaDoorW.PrintMore PChunkAll
set_option linter.unusedVariables false
set_option linter.unusedSimpArgs false

section
variable {H : Type} {enc : TypeId × Value → H} {w : World} {held : Bool}
theorem cells5 : Tryd.prog.cellsOf 5 = 1 := by kernel_rfl
theorem bytes5 : Tryd.prog.bytesOf 5 = 1 := by kernel_rfl

/-- Bytes read. -/
theorem open_bytes {n : Nat} {v : Value} {x : DataW H × List MemPlace} (h : DataW.trod enc Tryd.prog w 0 (fun _ => true) held n 23 [v] = some x) (hz : ∀ k ∈ x.1.weights Tryd.prog 23, k ≤ reachBytes) :
    ∃ (A : Option Addr) (c : Nat) (bs : List Int), v = .slice A bs.length c ∧ Kd.C KB w A bs.length bs ∧ bs.length ≤ c ∧ c ≤ reachBytes ∧ Byt bs := by
  rcases Deep.open_slice Tryd.underlying23 h with ⟨hcs, hx⟩ | ⟨a, len, cap, m, n', D, Pl, hcs, _, hl, hm, hmm, rfl, hel⟩
  · injection hcs with hcs
    subst hcs
    exact ⟨none, 0, [], rfl, C_nil _ _, Nat.le_refl _, by simp, fun y hy => by cases hy⟩
  · injection hcs with hcs
    subst hcs
    simp only [if_true] at hmm
    subst hmm
    rw [cells5] at hel
    have hbyte : ∀ i, i < len → ∃ b : Int, (∃ cs base, w.cells? base (a.add (i * 1)) 1 = some cs ∧ KB.K w b cs) ∧ 0 ≤ b ∧ b < 256 := by
      intro i hi
      obtain ⟨cs', h1, h2⟩ := hel i (by omega)
      obtain ⟨b, rfl, _, wf⟩ := DataW.trod_int Tryd.underlying5 h2
      refine ⟨b, ⟨_, _, h1, rfl⟩, ?_⟩
      have hw := wf
      simp [Lit.wf] at hw
      have hm1 : IntKind.u8.min = 0 := rfl
      have hm2 : IntKind.u8.max = 255 := rfl
      rw [hm1, hm2] at hw
      omega
    obtain ⟨f, hf⟩ := Deep.choose_lt hbyte
    have hbytes : m ≤ reachBytes := by
      have := hz (m * 1) (by
        simp only [DataW.weights, Tryd.underlying23, List.mem_cons, bytes5, List.length_map, List.length_range]
        left; omega)
      omega
    have hr := reachBytes_lt
    refine ⟨some a, m, (List.range len).map f, by simp, ?_, by simp; omega, hbytes, ?_⟩
    · have := row_C KB w a len 1 f rfl (by omega) (by decide) (fun i hi => (hf i hi).1)
      simpa using this
    · intro y hy
      obtain ⟨i, hi, rfl⟩ := List.mem_map.1 hy
      exact (hf i (List.mem_range.1 hi)).2

theorem open_labelS {n : Nat} {cs : List Value} {x : DataW H × List MemPlace} (h : DataW.trod enc Tryd.prog w 0 (fun _ => true) held n 112 cs = some x) : ∃ l : S112, cs = [.string l.f0, .string l.f1] ∧ l.f0.size ≤ 9223372036854775807 := by
  obtain ⟨y0, y1, m, hx, hl, h0, h1⟩ := trod_struct2 Tryd.underlying112 h
  rw [cells112] at hl
  obtain ⟨c0, c1, rfl⟩ := list2 hl
  · simp only [cells9, List.drop_zero, List.take_succ_cons, List.take_zero, List.drop_succ_cons] at h0 h1
    obtain ⟨s0, e0, _, hs0⟩ := DataW.trod_string Tryd.underlying9 h0
    obtain ⟨s1, e1, _, _⟩ := DataW.trod_string Tryd.underlying9 h1
    simp at e0 e1
    subst e0; subst e1
    exact ⟨⟨s0, s1⟩, rfl, hs0⟩
/-- Labels read, with their sizes. -/
theorem open_labelsS {n : Nat} {v : Value} {x : DataW H × List MemPlace} (h : DataW.trod enc Tryd.prog w 0 (fun _ => true) held n 31 [v] = some x) (hz : ∀ k ∈ x.1.weights Tryd.prog 31, k ≤ reachBytes) :
    ∃ (A : Option Addr) (c : Nat) (ls : List S112), v = .slice A ls.length c ∧ Kd.C k112 w A ls.length ls ∧ ls.length ≤ c ∧ c * 32 ≤ reachBytes ∧ SzOk ls := by
  rcases Deep.open_slice Tryd.underlying31 h with ⟨hcs, hx⟩ | ⟨a, len, cap, m, n', D, Pl, hcs, _, hl, hm, hmm, rfl, hel⟩
  · injection hcs with hcs
    subst hcs
    exact ⟨none, 0, [], rfl, C_nil _ _, Nat.le_refl _, by simp, fun k hk => absurd hk (Nat.not_lt_zero _)⟩
  · injection hcs with hcs
    subst hcs
    simp only [if_true] at hmm
    subst hmm
    rw [cells112] at hel
    have hlab : ∀ i, i < len → ∃ l : S112, (∃ cs base, w.cells? base (a.add (i * 2)) 2 = some cs ∧ k112.K w l cs) ∧ l.f0.size ≤ 9223372036854775807 := by
      intro i hi
      obtain ⟨cs', h1, h2⟩ := hel i (by omega)
      obtain ⟨l, rfl, hs⟩ := open_labelS h2
      exact ⟨l, ⟨_, _, h1, k112_mk w l⟩, hs⟩
    have : Inhabited S112 := ⟨z112⟩
    obtain ⟨f, hf⟩ := Deep.choose_lt hlab
    have hbytes : m * 32 ≤ reachBytes := by
      have := hz (m * 32) (by
        simp only [DataW.weights, Tryd.underlying31, List.mem_cons, bytes112, List.length_map, List.length_range]
        left; omega)
      exact this
    have hr := reachBytes_lt
    refine ⟨some a, m, (List.range len).map f, by simp, ?_, by simp; omega, hbytes, ?_⟩
    · have := row_C k112 w a len 2 f rfl (by omega) (by decide) (fun i hi => (hf i hi).1)
      simpa using this
    · intro k hk
      have hk' : k < len := by simpa using hk
      have e : ((List.range len).map f).getD k z112 = f k := by simp [hk']
      rw [e]
      exact (hf k hk').2

end
end Go.Proofs.YtojocffjajcdmaaDoor
/- A chunk of the reference, opened: the argument of the laws over chunks. -/
namespace Go.Proofs.YtojocffjajcdmaaDoor.RF
open Go Go.RowKit Go.ChangeShapes Go.WideShapes Go.ChangeAt Go.Proofs.YtojocffjajcdmaaDoor Go.Proofs.YtojocffjajcdmaaDoorW.PrintWords Go.Proofs.YtojocffjajcdmaaDoorW.PrintLast Go.Proofs.YtojocffjajcdmaaDoorW.PrintMore PChunkAll
set_option linter.unusedVariables false
set_option linter.unusedSimpArgs false

theorem cells93 : Tryd.prog.cellsOf 93 = 3 := by kernel_rfl
theorem cells50 : Tryd.prog.cellsOf 50 = 2 := by kernel_rfl
theorem bytes93 : Tryd.prog.bytesOf 93 = 32 := by kernel_rfl

section
variable {H : Type} {enc : TypeId × Value → H} {w : World} {held : Bool}
theorem list3 {cs : List Value} (h : cs.length = 3) : ∃ a b c, cs = [a, b, c] := by
  rcases cs with _ | ⟨a, _ | ⟨b, _ | ⟨c, _ | ⟨d, r⟩⟩⟩⟩
  · simp at h
  · simp at h
  · simp at h
  · exact ⟨a, b, c, rfl⟩
  · simp at h
theorem open_row {n : Nat} {cs : List Value} {x : DataW H × List MemPlace} (h : DataW.trod enc Tryd.prog w 0 (fun _ => true) held n 93 cs = some x) :
    ∃ r : S71, cs = [.int .i64 r.f0, .int .i64 r.f1, .string r.f2] ∧ (Lit.int .i64 r.f0).wf = true ∧ (Lit.int .i64 r.f1).wf = true := by
  obtain ⟨y0, y1, y2, m, hx, hl, h0, h1, h2⟩ := Deep.trod_struct3 Tryd.underlying93 h
  rw [cells93] at hl
  obtain ⟨c0, c1, c2, rfl⟩ := list3 hl
  simp only [cells9, cells3, List.drop_zero, List.take_succ_cons, List.take_zero, List.drop_succ_cons] at h0 h1 h2
  obtain ⟨s, e0, _, w0⟩ := DataW.trod_int Tryd.underlying3 h0
  obtain ⟨t, e1, _, w1⟩ := DataW.trod_int Tryd.underlying3 h1
  obtain ⟨z, e2, _, _⟩ := DataW.trod_string Tryd.underlying9 h2
  simp at e0 e1 e2
  subst e0; subst e1; subst e2
  exact ⟨⟨s, t, z⟩, rfl, w0, w1⟩
/-- The rows of a chunk, read. -/
theorem open_rows {n : Nat} {v : Value} {x : DataW H × List MemPlace} (h : DataW.trod enc Tryd.prog w 0 (fun _ => true) held n 48 [v] = some x) (hz : ∀ k ∈ x.1.weights Tryd.prog 48, k ≤ reachBytes) :
    ∃ (A : Option Addr) (c : Nat) (rows : List S71), v = .slice A rows.length c ∧ RowC w A (rcells rows) ∧ rows.length ≤ c ∧ c * 32 ≤ reachBytes ∧ (∀ r ∈ rows, (Lit.int .i64 r.f0).wf = true) ∧ (∀ r ∈ rows, (Lit.int .i64 r.f1).wf = true) := by
  rcases Deep.open_slice Tryd.underlying48 h with ⟨hcs, hx⟩ | ⟨a, len, cap, m, n', D, Pl, hcs, _, hl, hm, hmm, rfl, hel⟩
  · injection hcs with hcs
    subst hcs
    exact ⟨none, 0, [], rfl, cells71 (C_nil _ _), Nat.le_refl _, by simp, fun r hr => (by cases hr), fun r hr => (by cases hr)⟩
  · injection hcs with hcs
    subst hcs
    simp only [if_true] at hmm
    subst hmm
    rw [cells93] at hel
    have hrow : ∀ i, i < len → ∃ r : S71, (∃ cs base, w.cells? base (a.add (i * 3)) 3 = some cs ∧ k71.K w r cs) ∧ (Lit.int .i64 r.f0).wf = true ∧ (Lit.int .i64 r.f1).wf = true := by
      intro i hi
      obtain ⟨cs', h1, h2⟩ := hel i (by omega)
      obtain ⟨r, rfl, w0, w1⟩ := open_row h2
      exact ⟨r, ⟨_, _, h1, k71_mk w r⟩, w0, w1⟩
    have : Inhabited S71 := ⟨⟨0, 0, default⟩⟩
    obtain ⟨f, hf⟩ := Deep.choose_lt hrow
    have hbytes : m * 32 ≤ reachBytes := by
      have := hz (m * 32) (by
        simp only [DataW.weights, Tryd.underlying48, List.mem_cons, bytes93, List.length_map, List.length_range]
        left; omega)
      exact this
    have hr := reachBytes_lt
    refine ⟨some a, m, (List.range len).map f, by simp, ?_, by simp; omega, hbytes, ?_, ?_⟩
    · refine cells71 ?_
      have := row_C k71 w a len 3 f rfl (by omega) (by decide) (fun i hi => (hf i hi).1)
      simpa using this
    · intro y hy
      obtain ⟨i, hi, rfl⟩ := List.mem_map.1 hy
      exact (hf i (List.mem_range.1 hi)).2.1
    · intro y hy
      obtain ⟨i, hi, rfl⟩ := List.mem_map.1 hy
      exact (hf i (List.mem_range.1 hi)).2.2

theorem open_none {t e : TypeId} (ht : Tryd.prog.underlying t = some (.slice e)) {n len c : Nat} {A : Option Addr} {x : DataW H × List MemPlace} (h : DataW.trod enc Tryd.prog w 0 (fun _ => true) held n t [.slice A len c] = some x) : A = none → c = 0 := by
  intro ea
  subst ea
  rcases Deep.open_slice ht h with ⟨hcs, hx⟩ | ⟨a, len, cap, m, n', D, Pl, hcs, _⟩
  · have := (List.cons.inj hcs).1
    exact (Value.slice.inj this).2.2
  · have := (List.cons.inj hcs).1
    exact absurd (Value.slice.inj this).1 (by simp)
set_option maxRecDepth 100000 in
/-- A chunk by value, read. -/
theorem open_chunk {r : Reach} {b0 : Nat} {v : Value} {d : DataW H} {p : List MemPlace} (hv : Value.okWide Tryd.prog w r b0 50 v) (h : DataW.Trod enc Tryd.prog w 0 (fun _ => true) held 50 v d p) (hz : ∀ k ∈ d.weights Tryd.prog 50, k ≤ reachBytes) :
    ∃ (A1 : Option Addr) (c1 : Nat) (ls : List S112) (A2 : Option Addr) (c2 : Nat) (rows : List S71), v = chV A1 ls.length c1 A2 rows.length c2 ∧ Kd.C k112 w A1 ls.length ls ∧ ls.length ≤ c1 ∧ ls.length < 4398046511104 ∧ SzOk ls ∧
      RowC w A2 (rcells rows) ∧ rows.length ≤ c2 ∧ rows.length < 4398046511104 ∧ (∀ r ∈ rows, (Lit.int .i64 r.f0).wf = true) ∧ (∀ r ∈ rows, (Lit.int .i64 r.f1).wf = true) ∧ (A1 = none → c1 = 0) ∧ (A2 = none → c2 = 0) := by
  obtain ⟨v0, v1, y0, y1, n, rfl, rfl, rfl, h0, h1⟩ := Joins.open_agg2 Tryd.underlying50 (by kernel_rfl) cells50 hv h
  obtain ⟨A1, c1, ls, rfl, hr, hlen, hb, hs⟩ := open_labelsS h0 (fun k hk => hz k (by
    simp only [DataW.weights, Tryd.underlying50]
    exact DataW.weights_mem_each (j := 0) rfl rfl k hk))
  obtain ⟨A2, c2, rows, rfl, hr2, hlen2, hb2, hw0, hw1⟩ := open_rows h1 (fun k hk => hz k (by
    simp only [DataW.weights, Tryd.underlying50]
    exact DataW.weights_mem_each (j := 1) rfl rfl k hk))
  have hre : reachBytes = 140737488351232 := rfl
  exact ⟨A1, c1, ls, A2, c2, rows, rfl, hr, hlen, by omega, hs, hr2, hlen2, by omega, hw0, hw1, open_none Tryd.underlying31 h0, open_none Tryd.underlying48 h1⟩
end
end Go.Proofs.YtojocffjajcdmaaDoor.RF
