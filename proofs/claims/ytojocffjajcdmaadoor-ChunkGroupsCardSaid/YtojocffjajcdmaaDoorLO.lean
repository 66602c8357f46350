import Derived.Test.YtojocffjajcdmaaDoorLB
import Derived.Test.YtojocffjajcdmaaDoorLD
import Derived.Test.YtojocffjajcdmaaDoorLP
namespace Go.Proofs.YtojocffjajcdmaaDoor
open Go.ChangeShapes Go.WideShapes Go.ChangeAt Go.RowKit Go.Proofs.YtojocffjajcdmaaDoorW.PrintWords Go.Proofs.YtojocffjajcdmaaDoorW.PrintLast Go.Proofs.YtojocffjajcdmaaDoorW.PrintMore PChunkAll
set_option linter.unusedVariables false
set_option linter.unusedSimpArgs false

section
variable {H : Type} {enc : TypeId × Value → H} {w : World} {held : Bool}
theorem open_labelS {n : Nat} {cs : List Value} {x : DataW H × List MemPlace} (h : DataW.trod enc Tryd.prog w 0 (fun _ => true) held n 112 cs = some x) : ∃ l : S112, cs = [.string l.f0, .string l.f1] ∧ l.f0.size ≤ 9223372036854775807 := by
  obtain ⟨y0, y1, m, hx, hl, h0, h1⟩ := trod_struct2 Tryd.underlying112 h
  rw [cells112] at hl
  obtain ⟨c0, c1, rfl⟩ := list2 hl
  · simp only [cells9, List.drop_zero, List.take_succ_cons, List.take_zero, List.drop_succ_cons] at h0 h1
    obtain ⟨s0, e0, _, hs0⟩ := DataW.trod_string Tryd.underlying9 h0
    obtain ⟨s1, e1, _, _⟩ := DataW.trod_string Tryd.underlying9 h1
    simp at e0 e1
    subst e0; subst e1
    exact ⟨⟨s0, s1⟩, rfl, hs0⟩
/-- Labels read, with their sizes. -/
theorem open_labelsS {n : Nat} {v : Value} {x : DataW H × List MemPlace} (h : DataW.trod enc Tryd.prog w 0 (fun _ => true) held n 31 [v] = some x) (hz : ∀ k ∈ x.1.weights Tryd.prog 31, k ≤ reachBytes) :
    ∃ (A : Option Addr) (c : Nat) (ls : List S112), v = .slice A ls.length c ∧ Kd.C k112 w A ls.length ls ∧ ls.length ≤ c ∧ c * 32 ≤ reachBytes ∧ SzOk ls := by
  rcases Deep.open_slice Tryd.underlying31 h with ⟨hcs, hx⟩ | ⟨a, len, cap, m, n', D, Pl, hcs, _, hl, hm, hmm, rfl, hel⟩
  · injection hcs with hcs
    subst hcs
    exact ⟨none, 0, [], rfl, C_nil _ _, Nat.le_refl _, by simp, fun k hk => absurd hk (Nat.not_lt_zero _)⟩
  · injection hcs with hcs
    subst hcs
    simp only [if_true] at hmm
    subst hmm
    rw [cells112] at hel
    have hlab : ∀ i, i < len → ∃ l : S112, (∃ cs base, w.cells? base (a.add (i * 2)) 2 = some cs ∧ k112.K w l cs) ∧ l.f0.size ≤ 9223372036854775807 := by
      intro i hi
      obtain ⟨cs', h1, h2⟩ := hel i (by omega)
      obtain ⟨l, rfl, hs⟩ := open_labelS h2
      exact ⟨l, ⟨_, _, h1, k112_mk w l⟩, hs⟩
    have : Inhabited S112 := ⟨z112⟩
    obtain ⟨f, hf⟩ := Deep.choose_lt hlab
    have hbytes : m * 32 ≤ reachBytes := by
      have := hz (m * 32) (by
        simp only [DataW.weights, Tryd.underlying31, List.mem_cons, bytes112, List.length_map, List.length_range]
        left; omega)
      exact this
    have hr := reachBytes_lt
    refine ⟨some a, m, (List.range len).map f, by simp, ?_, by simp; omega, hbytes, ?_⟩
    · have := row_C k112 w a len 2 f rfl (by omega) (by decide) (fun i hi => (hf i hi).1)
      simpa using this
    · intro k hk
      have hk' : k < len := by simpa using hk
      have e : ((List.range len).map f).getD k z112 = f k := by simp [hk']
      rw [e]
      exact (hf k hk').2

end
end Go.Proofs.YtojocffjajcdmaaDoor
namespace Go.Proofs.YtojocffjajcdmaaDoor
open Go.ChangeShapes Go.WideShapes Go.ChangeAt Go.RowKit Go.Proofs.YtojocffjajcdmaaDoorW.PrintWords Go.Proofs.YtojocffjajcdmaaDoorW.PrintLast Go.Proofs.YtojocffjajcdmaaDoorW.PrintMore PChunkAll
set_option linter.unusedVariables false
set_option linter.unusedSimpArgs false

section
variable {H : Type} {enc : TypeId × Value → H} {w : World} {held : Bool}
/-- An entry read, with its names' sizes. -/
theorem open_entS {n : Nat} {cs : List Value} {x : DataW H × List MemPlace} (h : DataW.trod enc Tryd.prog w 0 (fun _ => true) held n 33 cs = some x) (hz : ∀ k ∈ x.1.weights Tryd.prog 33, k ≤ reachBytes) :
    ∃ e : S33, (k33.K w e cs) ∧ (-9223372036854775808 ≤ e.f0 ∧ e.f0 ≤ 9223372036854775807) ∧ e.f2.length * 32 ≤ reachBytes ∧ SzOk e.f2 := by
  obtain ⟨y0, y1, y2, y3, m, rfl, hl, h0, h1, h2, h3⟩ := Joins.trod_struct4 Tryd.underlying33 h
  rw [cells33] at hl
  obtain ⟨c0, c1, c2, c3, rfl⟩ := list4 hl
  · simp only [cells9, cells3, cells31, List.drop_zero, List.take_succ_cons, List.take_zero, List.drop_succ_cons] at h0 h1 h2 h3
    obtain ⟨s, e0, _, w0⟩ := DataW.trod_int Tryd.underlying3 h0
    obtain ⟨t, e1, _, w1⟩ := DataW.trod_int Tryd.underlying3 h1
    obtain ⟨z, e3, _, _⟩ := DataW.trod_string Tryd.underlying9 h3
    obtain ⟨A, c, ls, rfl, hr, hlen, hb, hs⟩ := open_labelsS h2 (fun k hk => hz k (by
      simp only [DataW.weights, Tryd.underlying33]
      exact DataW.weights_mem_each (j := 2) rfl rfl k hk))
    simp at e0 e1 e3
    subst e0; subst e1; subst e3
    exact ⟨⟨s, t, ls, z⟩, k33_mk w ⟨s, t, ls, z⟩ hlen hr, by have hw := w0; simp [Lit.wf] at hw; have hm : IntKind.i64.min = -9223372036854775808 := rfl; rw [hm] at hw; exact hw, by simp; omega, hs⟩

/-- A row of entries read, with the names' sizes. -/
theorem open_entsS {n : Nat} {v : Value} {x : DataW H × List MemPlace} (h : DataW.trod enc Tryd.prog w 0 (fun _ => true) held n 22 [v] = some x) (hz : ∀ k ∈ x.1.weights Tryd.prog 22, k ≤ reachBytes) :
    ∃ (A : Option Addr) (c : Nat) (l : List S33), v = .slice A l.length c ∧ Kd.C k33 w A l.length l ∧ l.length ≤ c ∧ EntsOk l ∧ SzE l := by
  rcases Deep.open_slice Tryd.underlying22 h with ⟨hcs, hx⟩ | ⟨a, len, cap, m, n', D, Pl, hcs, _, hl, hm, hmm, rfl, hel⟩
  · injection hcs with hcs
    subst hcs
    exact ⟨none, 0, [], rfl, C_nil _ _, Nat.le_refl _, ⟨by simp, fun k hk => by simp at hk, fun k hk => by simp at hk⟩, fun k hk => by simp at hk⟩
  · injection hcs with hcs
    subst hcs
    simp only [if_true] at hmm
    subst hmm
    rw [cells33] at hel
    have hent : ∀ i, i < len → ∃ e : S33, (∃ cs base, w.cells? base (a.add (i * 4)) 4 = some cs ∧ k33.K w e cs) ∧ (-9223372036854775808 ≤ e.f0 ∧ e.f0 ≤ 9223372036854775807) ∧ e.f2.length * 32 ≤ reachBytes ∧ SzOk e.f2 := by
      intro i hi
      obtain ⟨cs', h1, h2⟩ := hel i (by omega)
      obtain ⟨e, hK, hs, hlb, hsz⟩ := open_entS h2 (fun k hk => hz k (by
        simp only [DataW.weights, Tryd.underlying22, List.mem_cons, List.mem_append]
        exact .inr (.inl (weights_all (d := D i) (List.mem_map_of_mem (List.mem_range.2 hi)) k hk))))
      exact ⟨e, ⟨_, _, h1, hK⟩, hs, hlb, hsz⟩
    have : Inhabited S33 := ⟨z33⟩
    obtain ⟨f, hf⟩ := Deep.choose_lt hent
    have hbytes : m * 56 ≤ reachBytes := by
      have := hz (m * 56) (by
        simp only [DataW.weights, Tryd.underlying22, List.mem_cons, bytes33, List.length_map, List.length_range]
        left; omega)
      exact this
    have hr := reachBytes_lt
    have hre : reachBytes = 140737488351232 := rfl
    have hget : ∀ k, k < len → ((List.range len).map f).getD k z33 = f k := fun k hk => by simp [hk]
    refine ⟨some a, m, (List.range len).map f, by simp, ?_, by simp; omega, ⟨by simp; omega, fun k hk => ?_, fun k hk => ?_⟩, fun k hk => ?_⟩
    · have := row_C k33 w a len 4 f rfl (by omega) (by decide) (fun i hi => (hf i hi).1)
      simpa using this
    · have hk' : k < len := by simpa using hk
      rw [hget k hk']
      exact (hf k hk').2.1
    · have hk' : k < len := by simpa using hk
      rw [hget k hk']
      have := (hf k hk').2.2.1
      omega
    · have hk' : k < len := by simpa using hk
      rw [hget k hk']
      exact (hf k hk').2.2.2
end
end Go.Proofs.YtojocffjajcdmaaDoor
/- Entries read: a list of labels that is nowhere has no room. -/
namespace Go.Proofs.YtojocffjajcdmaaDoor
open Go.ChangeShapes Go.WideShapes Go.ChangeAt Go.RowKit Go.Proofs.YtojocffjajcdmaaDoorW.PrintWords Go.Proofs.YtojocffjajcdmaaDoorW.PrintLast Go.Proofs.YtojocffjajcdmaaDoorW.PrintMore PChunkAll
set_option linter.unusedVariables false
set_option linter.unusedSimpArgs false

def NoneC (w : World) (A : Option Addr) (n : Nat) : Prop := ∀ b o, A = some ⟨b, o, none⟩ → ∀ i, i < n → ∀ n2 c2, w.cell? ⟨b, o + i * 4 + 2, none⟩ = some (.slice none n2 c2) → c2 = 0
section
variable {H : Type} {enc : TypeId × Value → H} {w : World} {held : Bool}
theorem open_entN {n : Nat} {cs : List Value} {x : DataW H × List MemPlace} (h : DataW.trod enc Tryd.prog w 0 (fun _ => true) held n 33 cs = some x) : ∀ n2 c2, cs[2]? = some (.slice none n2 c2) → c2 = 0 := by
  obtain ⟨y0, y1, y2, y3, m, rfl, hl, h0, h1, h2, h3⟩ := Joins.trod_struct4 Tryd.underlying33 h
  rw [cells33] at hl
  obtain ⟨c0, c1, c2, c3, rfl⟩ := list4 hl
  simp only [cells9, cells3, cells31, List.drop_zero, List.take_succ_cons, List.take_zero, List.drop_succ_cons] at h0 h1 h2 h3
  intro n2 c2' e
  simp at e
  subst e
  rcases Deep.open_slice Tryd.underlying31 h2 with ⟨hcs, hx⟩ | ⟨a, len, cap, m, n', D, Pl, hcs, _, hl, hm, hmm, _, hel⟩
  · injection hcs with hcs
    injection hcs
  · injection hcs with hcs
    injection hcs with e
    cases e
theorem open_entsN {n : Nat} {v : Value} {x : DataW H × List MemPlace} (h : DataW.trod enc Tryd.prog w 0 (fun _ => true) held n 22 [v] = some x) {A : Option Addr} {m c : Nat} (hv : v = .slice A m c) : NoneC w A m := by
  intro b o hA i hi n2 c2 hc
  rcases Deep.open_slice Tryd.underlying22 h with ⟨hcs, hx⟩ | ⟨a, len, cap, m', n', D, Pl, hcs, _, hl, hm, hmm, rfl, hel⟩
  · injection hcs with hcs
    rw [hv, hA] at hcs
    injection hcs with e
    cases e
  · injection hcs with hcs
    rw [hv, hA] at hcs
    injection hcs with e1 e2 e3
    injection e1 with e1
    subst e1
    simp only [if_true] at hmm
    rw [cells33] at hel
    obtain ⟨cs', h1, h2⟩ := hel i (by omega)
    obtain ⟨q1, q2⟩ := cells_at h1 (i := 2) (by decide)
    rw [addr_add, addr_add, hc] at q2
    exact open_entN h2 n2 c2 (by rw [List.getElem?_eq_getElem q1, ← q2])
end
end Go.Proofs.YtojocffjajcdmaaDoor
