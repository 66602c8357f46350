import Derived.Test.YtjfggmkfnofldaaG1
namespace Go.Proofs.Ytjfggmkfnofldaa
open Go.RowKit
set_option linter.unusedVariables false

theorem own_at {w : World} {base n c m size : Nat} {A : Option Addr} {e : TypeId} {xs : List Value} (h : w.ownsRow base e size (.slice A n c) m xs) (hp : 0 < m) : ∃ g, A = some ⟨g, 0, none⟩ ∧ base ≤ g ∧ ∃ cur, w.heap[g]? = some (.cells cur e (0, 0)) := by
  rcases h.2 with ⟨hv, h0⟩ | ⟨g, cap, cur, hv, hb, hg, _⟩
  · omega
  · injection hv with h1
    exact ⟨g, h1, hb, cur, hg⟩

/-- An entry's labels lie in a block of the call's own. -/
def Labby (w : World) (base : Nat) (o : Ent) : Prop := 0 < o.n → ∃ g cs, o.A = some ⟨g, 0, none⟩ ∧ base ≤ g ∧ w.heap[g]? = some (.cells cs 55 (0, 0)) ∧ o.n * 2 ≤ cs.size
theorem Labby.set {w : World} {base : Nat} {o : Ent} (h : Labby w base o) (b i : Nat) (u : Value) : Labby (w.setCell ⟨b, i, none⟩ u) base o := fun hp => by
  obtain ⟨g, cs, e, hb, hg, hs⟩ := h hp
  by_cases hq : g = b
  · subst hq
    exact ⟨g, cs.setIfInBounds i u, e, hb, ((Blk.mk hg).set i u).out, by simpa using hs⟩
  · exact ⟨g, cs, e, hb, (Below.heap_setCell w _ u g hq).trans hg, hs⟩
theorem labby_of_own {w : World} {base : Nat} {o : Ent} {n : Nat} {xs : List Value} (h : w.ownsRow base 55 2 (.slice o.A o.n o.c) n xs) (hn : o.n = n) : Labby w base o := fun hp => by
  have h1 := h.1
  rcases h.2 with ⟨hv, h0⟩ | ⟨g, cap, cur, hv, hb, hg, hc, hm, hs, ht⟩
  · omega
  · injection hv with e1 e2 e3
    exact ⟨g, cur, e1, hb, hg, by omega⟩

def SpoilIs (w0 : World) (base : Nat) (v : Value) (os : List Ent) (wr : World) : Prop :=
  wr.ownsRow base 34 4 v os.length (ecells os) ∧ (∀ o ∈ os, Labby wr base o) ∧ Below base w0 wr
def SpoilRel (w0 : World) (base : Nat) (v : Value) (os : List Ent) (v2 : Value) (wr : World) : Prop := ∃ k : Nat, v2 = .int .i64 k ∧ k ≤ os.length ∧ SpoilIs w0 base v os wr

set_option maxHeartbeats 2000000 in
theorem spoil15 (base c : Nat) (A : Option Addr) (os : List Ent) (w : World) (h : SpoilIs w base (.slice A os.length c) os w) (hs : os.length ≤ 9000000000000000) (hsn : ∀ o ∈ os, o.n ≤ 9000000000000000) :
    Calls Try.prog 15 #[.slice A os.length c] w fun e w' => e = .returned (.tuple #[]) ∧ Below base w w' := by
  go_enter Try.func15, Try.ntmps15
  go_wp2
  go_loopw [2] (fun v2 wr => SpoilRel w base (.slice A os.length c) os v2 wr) (fun v2 _ => os.length - (intOf v2).toNat)
  case atStart => exact ⟨0, rfl, Nat.zero_le _, h⟩
  case round =>
    obtain ⟨k, rfl, hk, hi⟩ := hrel
    clear h
    by_cases hlt : k < os.length
    · have hk1 : (k : Int) < (os.length : Int) := by omega
      have hon := hsn os[k] (List.getElem_mem hlt)
      have HO : Hid (os[k] ∈ os) := Lib.hid (List.getElem_mem hlt)
      have HI := Lib.hid hi; clear hi
      have HC : Hid (∀ wi, SpoilIs w base (.slice A os.length c) os wi → ∃ g, A = some ⟨g, 0, none⟩ ∧ wi.cell? ⟨g, k * 4 + 2, none⟩ = some (.slice os[k].A os[k].n os[k].c)) := Lib.hid (fun wi hwi => by
        obtain ⟨g, rfl, _⟩ := own_at hwi.1 (by omega)
        obtain ⟨_, _, q2, _⟩ := own_ecells hwi.1 k hlt
        exact ⟨g, rfl, q2⟩)
      generalize os[k] = x at *
      go_wp2_with fail
      go_loopw [3] (fun v3 wi => ∃ j : Nat, v3 = .int .i64 j ∧ j ≤ x.n ∧ SpoilIs w base (.slice A os.length c) os wi) (fun v3 _ => x.n - (intOf v3).toNat)
      case atStart => exact ⟨0, rfl, Nat.zero_le _, HI.out⟩
      case round =>
        obtain ⟨j, rfl, hj, hi⟩ := hrel
        obtain ⟨g, rfl, q2⟩ := HC.out _ hi
        by_cases hl : j < x.n
        · obtain ⟨gl, cs, ea, hbl, hgl, hcs⟩ := hi.2.1 x HO.out (by omega)
          have hj1 : (j : Int) < (x.n : Int) := by omega
          have qc : wr.cell? ⟨gl, j * 2 + 1, none⟩ = some (cs[j * 2 + 1]'(by omega)) := by unfold World.cell?; simp [hgl]
          have qf : wr.frozen? ⟨gl, j * 2 + 1, none⟩ = false := by unfold World.frozen?; simp [hgl]
          rw [ea] at q2
          have hne : g ≠ gl := by
            rintro rfl
            obtain ⟨g', e', _, cur, hc⟩ := own_at hi.1 (by omega)
            injection e' with e'; injection e' with e'
            subst e'
            rw [hgl] at hc
            injection hc with hc; injection hc with _ hc; exact absurd hc (by decide)
          have HN : Hid (SpoilIs w base (.slice (some ⟨g, 0, none⟩) os.length c) os (wr.setCell ⟨gl, j * 2 + 1, none⟩ (.string ⟨#[115, 112, 111, 105, 108, 116]⟩))) := Lib.hid
            ⟨ownsRow_setOther hi.1 (by rw [Value.ownBlock]; intro e; exact hne (by injection e)), fun o ho => (hi.2.1 o ho).set _ _ _, hi.2.2.setCell hbl _⟩
          clear hgl hi ea
          go_wp2_with fail
          go_roundw
          case rel => exact ⟨j + 1, by go_num, by omega, HN.out⟩
          case measure => simp [intOf]; omega
        · have HI2 := Lib.hid hi; clear hi
          go_wp2_with fail
          go_roundw
          case rel => exact ⟨k + 1, by go_num, by omega, HI2.out⟩
          case measure => simp [intOf]; omega
    · go_wp2
      go_end0
      exact ⟨rfl, hi.2.2⟩
end Go.Proofs.Ytjfggmkfnofldaa
