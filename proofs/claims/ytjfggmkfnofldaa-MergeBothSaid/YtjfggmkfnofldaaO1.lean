import Derived.Test.YtjfggmkfnofldaaF1
import Derived.Test.YtjfggmkfnofldaaR1
import Derived.Deep.Slices
import Derived.Lib.SmallJoins
import Derived.SizedLaws
namespace Go.Proofs.Ytjfggmkfnofldaa
open Go.ChangeShapes Go.WideShapes Go.ChangeAt Go.RowKit
set_option linter.unusedVariables false

theorem cells34 : Try.prog.cellsOf 34 = 4 := by kernel_rfl
theorem cells55 : Try.prog.cellsOf 55 = 2 := by kernel_rfl
theorem cells9 : Try.prog.cellsOf 9 = 1 := by kernel_rfl
theorem cells3 : Try.prog.cellsOf 3 = 1 := by kernel_rfl
theorem cells32 : Try.prog.cellsOf 32 = 1 := by kernel_rfl
theorem cells24 : Try.prog.cellsOf 24 = 1 := by kernel_rfl
theorem bytes55 : Try.prog.bytesOf 55 = 32 := by kernel_rfl
theorem bytes34 : Try.prog.bytesOf 34 = 56 := by kernel_rfl

section
variable {H : Type} {enc : TypeId × Value → H} {w : World} {held : Bool}

theorem cells_at {w : World} {base : Nat} {a : Addr} {n i : Nat} {cs : List Value} (h : w.cells? base a n = some cs) (hi : i < n) : ∃ h2 : i < cs.length, w.cell? (a.add i) = some cs[i] := by
  obtain ⟨_, hl, hc⟩ := World.cells?_some h
  have h2 : i < cs.length := by omega
  exact ⟨h2, by rw [hc i hi, List.getElem?_eq_getElem h2]⟩
theorem spot_none {w : World} {a : Addr} {v : Value} (h : w.cell? a = some v) : a = ⟨a.block, a.off, none⟩ := by
  obtain ⟨b, o, s⟩ := a
  cases s with
  | none => rfl
  | some k =>
    exfalso
    unfold World.cell? at h
    split at h <;> simp at h

/-- A label read. -/
theorem open_label {n : Nat} {cs : List Value} {x : DataW H × List MemPlace} (h : DataW.trod enc Try.prog w 0 (fun _ => true) held n 55 cs = some x) : ∃ l : Lab, cs = [.string l.1, .string l.2] := by
  obtain ⟨y0, y1, m, hx, hl, h0, h1⟩ := trod_struct2 Try.underlying55 h
  rw [cells55] at hl
  match cs, hl with
  | [c0, c1], _ =>
    simp only [cells9, List.drop_zero, List.take_succ_cons, List.take_zero, List.drop_succ_cons] at h0 h1
    obtain ⟨s0, e0, _, _⟩ := DataW.trod_string Try.underlying9 h0
    obtain ⟨s1, e1, _, _⟩ := DataW.trod_string Try.underlying9 h1
    simp at e0 e1
    subst e0; subst e1
    exact ⟨(s0, s1), rfl⟩

theorem weights_all {P : Program} {e : TypeId} {d : DataW H} {l : List (DataW H)} (h : d ∈ l) : ∀ k ∈ d.weights P e, k ∈ DataW.weightsAll P e l := by
  induction l with
  | nil => cases h
  | cons a l ih =>
    intro k hk
    simp only [DataW.weightsAll, List.mem_append]
    rcases List.mem_cons.1 h with rfl | h
    · exact .inl hk
    · exact .inr (ih h k hk)

/-- Labels read. -/
theorem open_labels {n : Nat} {v : Value} {x : DataW H × List MemPlace} (h : DataW.trod enc Try.prog w 0 (fun _ => true) held n 32 [v] = some x) (hz : ∀ k ∈ x.1.weights Try.prog 32, k ≤ reachBytes) :
    ∃ (A : Option Addr) (m c : Nat) (ls : List Lab), v = .slice A m c ∧ RowCells w A (lcells ls) ∧ ls.length = m ∧ (m ≤ c ∧ (A = none → c = 0)) ∧ m * 32 ≤ 140737488355328 := by
  rcases Deep.open_slice Try.underlying32 h with ⟨hcs, hx⟩ | ⟨a, len, cap, m, n', D, Pl, hcs, _, hl, hm, hmm, rfl, hel⟩
  · injection hcs with hcs
    subst hcs
    exact ⟨none, 0, 0, [], rfl, fun hp => by simp [lcells] at hp, rfl, ⟨Nat.le_refl _, fun _ => rfl⟩, by omega⟩
  · injection hcs with hcs
    subst hcs
    simp only [if_true] at hmm
    subst hmm
    rw [cells55] at hel
    have hlab : ∀ i, i < len → ∃ l : Lab, w.cell? (a.add (i * 2)) = some (.string l.1) ∧ w.cell? ((a.add (i * 2)).add 1) = some (.string l.2) := by
      intro i hi
      obtain ⟨cs', h1, h2⟩ := hel i (by omega)
      obtain ⟨l, rfl⟩ := open_label h2
      obtain ⟨_, k0⟩ := cells_at h1 (i := 0) (by omega)
      obtain ⟨_, k1⟩ := cells_at h1 (i := 1) (by omega)
      exact ⟨l, k0, k1⟩
    obtain ⟨f, hf⟩ := Deep.choose_lt hlab
    have hbytes : m * 32 ≤ reachBytes := by
      have := hz (m * 32) (by
        simp only [DataW.weights, Try.underlying32, List.mem_cons, bytes55, List.length_map, List.length_range]
        left; omega)
      exact this
    have hr := reachBytes_lt
    refine ⟨some a, len, m, (List.range len).map f, rfl, fun hp => ?_, by simp, ⟨hl, fun e => by cases e⟩, by omega⟩
    rw [lcells_length] at hp
    simp at hp
    obtain ⟨k0, _⟩ := hf 0 (by omega)
    rw [Nat.zero_mul] at k0
    have hsp := spot_none (a := a) (by rw [show a.add 0 = a from rfl] at k0; exact k0)
    refine ⟨a.block, a.off, by rw [← hsp], fun j u hu => ?_⟩
    have hj : j < (lcells ((List.range len).map f)).length := (List.getElem?_eq_some_iff.1 hu).1
    rw [lcells_length] at hj
    simp at hj
    obtain ⟨g0, g1⟩ := lcells_get ((List.range len).map f) (j / 2) (by simp; omega)
    obtain ⟨q0, q1⟩ := hf (j / 2) (by omega)
    rw [hsp, addr_add] at q0 q1
    rw [addr_add] at q1
    simp only [List.getElem_map, List.getElem_range] at g0 g1
    rcases Nat.mod_two_eq_zero_or_one j with hp | hp
    · have e : j = j / 2 * 2 := by omega
      rw [e] at hu ⊢
      rw [g0] at hu
      injection hu with hu
      subst hu
      exact q0
    · have e : j = j / 2 * 2 + 1 := by omega
      rw [e] at hu ⊢
      rw [g1] at hu
      injection hu with hu
      subst hu
      exact q1

/-- An entry read. -/
theorem open_ent {n : Nat} {cs : List Value} {x : DataW H × List MemPlace} (h : DataW.trod enc Try.prog w 0 (fun _ => true) held n 34 cs = some x) (hz : ∀ k ∈ x.1.weights Try.prog 34, k ≤ reachBytes) :
    ∃ (e : Ent) (a : AEnt), cs = [.int .i64 e.s, .int .i64 e.t, .slice e.A e.n e.c, .string e.x] ∧ EntA w e a ∧ EntOk w e := by
  obtain ⟨y0, y1, y2, y3, m, rfl, hl, h0, h1, h2, h3⟩ := Joins.trod_struct4 Try.underlying34 h
  rw [cells34] at hl
  match cs, hl with
  | [c0, c1, c2, c3], _ =>
    simp only [cells9, cells3, cells32, List.drop_zero, List.take_succ_cons, List.take_zero, List.drop_succ_cons] at h0 h1 h2 h3
    obtain ⟨s, e0, _, w0⟩ := DataW.trod_int Try.underlying3 h0
    obtain ⟨t, e1, _, w1⟩ := DataW.trod_int Try.underlying3 h1
    obtain ⟨z, e3, _, _⟩ := DataW.trod_string Try.underlying9 h3
    obtain ⟨A, m, c, ls, rfl, hr, hlen, hn, hb⟩ := open_labels h2 (fun k hk => hz k (by
      simp only [DataW.weights, Try.underlying34]
      exact DataW.weights_mem_each (j := 2) rfl rfl k hk))
    simp at e0 e1 e3
    subst e0; subst e1; subst e3
    exact ⟨⟨s, t, A, m, c, z⟩, ⟨s, t, ls, z⟩, rfl, ⟨rfl, rfl, rfl, hr, hlen, hn, hb⟩, w0, w1, ls, hr, hlen, hn, hb⟩

/-- What is read of a row: its length, and what it weighs. -/
def RowData (d : DataW H) (n c : Nat) : Prop := (d = .nil ∧ n = 0 ∧ c = 0) ∨ ∃ elems spare, d = .slice elems spare ∧ elems.length = n ∧ c = elems.length + spare.length

/-- A row of entries read. -/
theorem open_ents {n : Nat} {v : Value} {x : DataW H × List MemPlace} (h : DataW.trod enc Try.prog w 0 (fun _ => true) held n 24 [v] = some x) (hz : ∀ k ∈ x.1.weights Try.prog 24, k ≤ reachBytes) :
    ∃ (A : Option Addr) (c : Nat) (es : List Ent) (xs : List AEnt), v = .slice A es.length c ∧ RowA w A es xs ∧ (∀ e ∈ es, EntOk w e) ∧ (A = none → c = 0) ∧ es.length ≤ c ∧ es.length * 56 ≤ 140737488355328 ∧ RowData x.1 es.length c := by
  rcases Deep.open_slice Try.underlying24 h with ⟨hcs, hx⟩ | ⟨a, len, cap, m, n', D, Pl, hcs, _, hl, hm, hmm, rfl, hel⟩
  · injection hcs with hcs
    subst hcs; subst hx
    exact ⟨none, 0, [], [], rfl, ⟨fun hp => by simp [ecells] at hp, rfl, fun i h => by simp at h⟩, fun e h => (by cases h), fun _ => rfl, Nat.le_refl _, by simp, .inl ⟨rfl, rfl, rfl⟩⟩
  · injection hcs with hcs
    subst hcs
    simp only [if_true] at hmm
    subst hmm
    rw [cells34] at hel
    have hent : ∀ i, i < len → ∃ p : Ent × AEnt, (w.cell? (a.add (i * 4)) = some (.int .i64 p.1.s) ∧ w.cell? ((a.add (i * 4)).add 1) = some (.int .i64 p.1.t) ∧ w.cell? ((a.add (i * 4)).add 2) = some (.slice p.1.A p.1.n p.1.c) ∧ w.cell? ((a.add (i * 4)).add 3) = some (.string p.1.x)) ∧ EntA w p.1 p.2 ∧ EntOk w p.1 := by
      intro i hi
      obtain ⟨cs', h1, h2⟩ := hel i (by omega)
      obtain ⟨e, ae, rfl, hea, heo⟩ := open_ent h2 (fun k hk => hz k (by
        simp only [DataW.weights, Try.underlying24, List.mem_cons, List.mem_append]
        exact .inr (.inl (weights_all (d := D i) (List.mem_map_of_mem (List.mem_range.2 hi)) k hk))))
      obtain ⟨_, k0⟩ := cells_at h1 (i := 0) (by omega)
      obtain ⟨_, k1⟩ := cells_at h1 (i := 1) (by omega)
      obtain ⟨_, k2⟩ := cells_at h1 (i := 2) (by omega)
      obtain ⟨_, k3⟩ := cells_at h1 (i := 3) (by omega)
      exact ⟨(e, ae), ⟨k0, k1, k2, k3⟩, hea, heo⟩
    have : Inhabited (Ent × AEnt) := ⟨(default, ⟨0, 0, [], ⟨#[]⟩⟩)⟩
    obtain ⟨f, hf⟩ := Deep.choose_lt hent
    have hbytes : m * 56 ≤ reachBytes := by
      have := hz (m * 56) (by
        simp only [DataW.weights, Try.underlying24, List.mem_cons, bytes34, List.length_map, List.length_range]
        left; omega)
      exact this
    have hr := reachBytes_lt
    have hlen : ((List.range len).map fun i => (f i).1).length = len := by simp
    refine ⟨some a, m, (List.range len).map fun i => (f i).1, (List.range len).map fun i => (f i).2, by rw [hlen], ⟨fun hp => ?_, by simp, fun i h1 h2 => ?_⟩, fun e he => ?_, fun e => (by cases e), by rw [hlen]; exact hl, by rw [hlen]; omega, .inr ⟨_, _, rfl, by simp, by simp; omega⟩⟩
    · rw [ecells_length, hlen] at hp
      obtain ⟨⟨k0, _⟩, _⟩ := hf 0 (by omega)
      rw [Nat.zero_mul] at k0
      have hsp := spot_none (a := a) (by rw [show a.add 0 = a from rfl] at k0; exact k0)
      refine ⟨a.block, a.off, by rw [← hsp], fun j u hu => ?_⟩
      have hj : j < (ecells ((List.range len).map fun i => (f i).1)).length := (List.getElem?_eq_some_iff.1 hu).1
      rw [ecells_length, hlen] at hj
      obtain ⟨g0, g1, g2, g3⟩ := ecells_get ((List.range len).map fun i => (f i).1) (j / 4) (by rw [hlen]; omega)
      obtain ⟨⟨q0, q1, q2, q3⟩, _⟩ := hf (j / 4) (by omega)
      rw [hsp, addr_add] at q0 q1 q2 q3
      rw [addr_add] at q1 q2 q3
      simp only [List.getElem_map, List.getElem_range] at g0 g1 g2 g3
      have hmod : j % 4 = 0 ∨ j % 4 = 1 ∨ j % 4 = 2 ∨ j % 4 = 3 := by omega
      rcases hmod with hp | hp | hp | hp
      · have e : j = j / 4 * 4 := by omega
        rw [e] at hu ⊢
        rw [g0] at hu; injection hu with hu; subst hu; exact q0
      · have e : j = j / 4 * 4 + 1 := by omega
        rw [e] at hu ⊢
        rw [g1] at hu; injection hu with hu; subst hu; exact q1
      · have e : j = j / 4 * 4 + 2 := by omega
        rw [e] at hu ⊢
        rw [g2] at hu; injection hu with hu; subst hu; exact q2
      · have e : j = j / 4 * 4 + 3 := by omega
        rw [e] at hu ⊢
        rw [g3] at hu; injection hu with hu; subst hu; exact q3
    · simp only [List.getElem_map, List.getElem_range]
      exact (hf i (by simpa using h1)).2.1
    · obtain ⟨i, hi, rfl⟩ := List.mem_map.1 he
      exact (hf i (List.mem_range.1 hi)).2.2
end
end Go.Proofs.Ytjfggmkfnofldaa
