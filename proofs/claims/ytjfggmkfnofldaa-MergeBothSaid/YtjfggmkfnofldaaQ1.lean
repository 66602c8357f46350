import Derived.Test.YtjfggmkfnofldaaH4
namespace Go.Proofs.Ytjfggmkfnofldaa
open Go.RowKit
set_option linter.unusedVariables false

/-- Each number once, over raw entries. -/
def onceE (seen : List Int) : List Ent → List Ent
  | [] => []
  | a :: l => if a.s ∈ seen then onceE seen l else a :: onceE (a.s :: seen) l
theorem once_rel {R : Ent → AEnt → Prop} (hR : KeyR R) : ∀ {es : List Ent} {xs : List AEnt} (seen : List Int), Rel2 R es xs → Rel2 R (onceE seen es) (dedupS seen xs)
  | [], [], seen, h => Rel2.nil
  | [], _ :: _, seen, h => by have := h.len; simp at this
  | _ :: _, [], seen, h => by have := h.len; simp at this
  | e :: es, a :: xs, seen, h => by
    obtain ⟨h1, h2⟩ := h.head
    rw [onceE, dedupS, (hR e a h1).1]
    split
    · exact once_rel hR seen h2
    · exact (once_rel hR (a.s :: seen) h2).cons h1
theorem onceE_mem (es : List Ent) : ∀ seen, ∀ e ∈ onceE seen es, e ∈ es := by
  induction es with
  | nil => intro seen e h; cases h
  | cons a l ih =>
    intro seen e h
    rw [onceE] at h
    split at h
    · exact List.mem_cons_of_mem _ (ih _ e h)
    · rcases List.mem_cons.1 h with rfl | h
      · exact List.mem_cons_self
      · exact List.mem_cons_of_mem _ (ih _ e h)

theorem own_ne_map {w : World} {base n size b m : Nat} {v : Value} {e : TypeId} {xs : List Value} {S : Int → Bool} (h : w.ownsRow base e size v n xs) (hm : SetIs w b m S) : ∀ q, some q = v.ownBlock → q ≠ b := by
  intro q hq hb
  obtain ⟨es', cl, hm⟩ := hm.isMap
  rcases h.2 with ⟨rfl, _⟩ | ⟨g, cap, cur, rfl, _, hg, _⟩
  · simp [Value.ownBlock] at hq
  · simp [Value.ownBlock] at hq
    rw [← hb, hq, hg] at hm; cases hm

structure OnceInv (w : World) (mb : Nat) (es : List Ent) (k : Nat) (seen : List Int) (acc : List Ent) (v4 : Value) (wr : World) : Prop where
  met : SetIs wr mb seen.length (fun i => decide (i ∈ seen))
  own : wr.ownsRow w.heap.size 34 4 v4 acc.length (ecells acc)
  eq : acc ++ onceE seen (es.drop k) = onceE [] es
  sl : seen.length ≤ k ∧ acc.length ≤ k
  bel : Below w.heap.size w wr
  gm : w.heap.size ≤ mb
def OnceRel (w : World) (mb : Nat) (es : List Ent) (v5 v4 : Value) (wr : World) : Prop :=
  ∃ (k : Nat) (seen : List Int) (acc : List Ent), v5 = .int .i64 k ∧ k ≤ es.length ∧ OnceInv w mb es k seen acc v4 wr
def OncePost (w : World) (es : List Ent) (r : Ending) (w' : World) : Prop :=
  ∃ v, r = .returned v ∧ w'.ownsRow w.heap.size 34 4 v (onceE [] es).length (ecells (onceE [] es)) ∧ Below w.heap.size w w'

set_option maxHeartbeats 2000000 in
theorem once20 (A : Option Addr) (c : Nat) (es : List Ent) (w : World) (hr : RowCells w A (ecells es)) (hs : es.length * 56 ≤ 140737488355328) (hok : ∀ e ∈ es, (Lit.int .i64 e.s).wf = true) :
    Calls Try.prog 20 #[.slice A es.length c] w (OncePost w es) := by
  obtain ⟨i0, hi0, hz0, hz1, hz2⟩ := info_parts info34
  have hmm := @run_makeMap Try.prog
  go_enter Try.func20, Try.ntmps20
  go_wp2
  go_loopw [5, 4] (fun v5 v4 wr => OnceRel w w.heap.size es v5 v4 wr) (fun v5 _ _ => es.length - (intOf v5).toNat)
  case atStart => exact ⟨0, [], [], rfl, Nat.zero_le _, ⟨by simpa using SetIs.made w, World.ownsRow_nil _ _ _ _, by simp, ⟨by simp, by simp⟩, (Below.refl _ _).alloc (Nat.le_refl _) _, Nat.le_refl _⟩⟩
  case round =>
    obtain ⟨k, seen, acc, rfl, hk, hi⟩ := hrel
    obtain ⟨Ao, co, rfl⟩ := own_sl hi.own
    clear hmm
    by_cases hlt : k < es.length
    · obtain ⟨b, o, rfl, hc⟩ := hr (by rw [ecells_length]; omega)
      obtain ⟨p0, p1, p2, p3⟩ := entCells_of (fun j u hu => keepc hi.bel (hc j u hu)) k hlt
      have hwf := hok es[k] (List.getElem_mem hlt)
      have hlook := hi.met.lookup es[k].s hwf
      have HD : Hid (es.drop k = es[k] :: es.drop (k + 1)) := Lib.hid (List.drop_eq_getElem_cons hlt)
      have hsl := hi.sl
      have HSL := Lib.hid hsl
      have hal : acc.length + 1 ≤ es.length := by omega
      have hsn2 : seen.length ≤ es.length := by omega
      have HC := Lib.hid (fun w' (hb' : Below w.heap.size w w') => entCells_of (fun j u hu => keepc hb' (hc j u hu)) k hlt)
      have HI := Lib.hid hi
      have hi1 : (k : Int) < (es.length : Int) := by omega
      clear hsl hi hc hr
      generalize es[k] = x at *
      by_cases hsn : x.s ∈ seen
      · have hl2 : (Instr.lookup 30 (.map (some w.heap.size)) (.int .i64 x.s) false).run Try.prog wr = .ok (.bool true) wr := by rw [hlook]; simp [hsn]
        have HSN := Lib.hid hsn
        clear hlook hsn
        go_wp2_with fail
        go_roundw
        case rel => exact ⟨k + 1, seen, acc, by go_num, by omega, HI.out.met, HI.out.own, by rw [← HI.out.eq, HD.out, onceE, if_pos HSN.out], ⟨by have := HSL.out; omega, by have := HSL.out; omega⟩, HI.out.bel, HI.out.gm⟩
        case measure => simp [intOf]; omega
      · have hl2 : (Instr.lookup 30 (.map (some w.heap.size)) (.int .i64 x.s) false).run Try.prog wr = .ok (.bool false) wr := by rw [hlook]; simp [hsn]
        have HSN := Lib.hid hsn
        obtain ⟨w4, hrun, hset4, hg4⟩ := HI.out.met.update x.s hwf (by unfold maxLen; omega) true
        have hb4 : Below w.heap.size w w4 := HI.out.bel.grown hg4 HI.out.bel.size (fun q hq => by cases hq; exact HI.out.gm)
        have hown4 : w4.ownsRow w.heap.size 34 4 (.slice Ao acc.length co) acc.length (ecells acc) := ownsRow_keepF HI.out.own (KeepF.of_grown hg4) (fun q hq e => own_ne_map HI.out.own HI.out.met q hq.symm (by injection e))
        have HO4 := Lib.hid hown4
        have HS4 := Lib.hid hset4
        obtain ⟨q0, q1, q2, q3⟩ := HC.out w4 hb4
        clear hlook hsn hset4 hown4 hg4
        go_wp2_with (at_builtin; go_must (refine wpList_append_own _ rfl _ _ 24 rfl w.heap.size 34 i0 _ 4 56 Try.underlying24 hi0 hz0 hz1 hz2 rfl (by decide) _ acc.length (ecells acc) rfl (HO4.out.alloc _) ⟨w4.heap.size, 0, none⟩ 1 1 [.int .i64 x.s, .int .i64 x.t, .slice x.A x.n x.c, .string x.x] rfl rfl (news_at _ #[.int .i64 x.s, .int .i64 x.t, .slice x.A x.n x.c, .string x.x] 34 _ rfl) (by simp [Value.oneCell']) (by unfold maxLen; omega) (by omega) (by have := hb4.size; simp; omega) ?_); intro v9 w9 hown9 hgrow9 _)
        go_roundw
        case rel =>
          have hne := own_ne_map HO4.out HS4.out
          have hk9 : KeepF w4 w9 (fun k => some k = (Value.slice Ao acc.length co).ownBlock) := (KeepF.of_below ((Below.refl w4.heap.size w4).alloc (Nat.le_refl _) _) _).trans (KeepF.of_grown hgrow9) (fun q h => .inl h)
          refine ⟨k + 1, x.s :: seen, acc ++ [x], by go_num, by omega, ?_, ?_, ?_, ⟨by have := HSL.out; simp; omega, by have := HSL.out; simp; omega⟩, hk9.toBelow hb4 (fun q hq => (HO4.out.lt q hq.symm).1), HI.out.gm⟩
          · have h1 := HS4.out.same (hk9.block _ HS4.out.lt (fun e => hne _ e rfl))
            have e : (fun j => if j = x.s then true else decide (j ∈ seen)) = fun i => decide (i ∈ x.s :: seen) := by
              funext j
              by_cases hj : j = x.s <;> simp [hj]
            rw [e] at h1
            exact h1
          · have e : ecells (acc ++ [x]) = ecells acc ++ [.int .i64 x.s, .int .i64 x.t, .slice x.A x.n x.c, .string x.x] := by simp [ecells]
            rw [e, List.length_append]
            exact hown9
          · rw [← HI.out.eq, HD.out, onceE, if_neg HSN.out]; simp
        case measure => simp [intOf]; omega
    · have HF : Hid (acc = onceE [] es) := Lib.hid (by have := hi.eq; rw [List.drop_eq_nil_of_le (by omega), onceE, List.append_nil] at this; exact this)
      have HI := Lib.hid hi
      clear hi
      go_wp2
      go_ret
      exact ⟨_, rfl, by rw [← HF.out]; exact HI.out.own, HI.out.bel⟩
end Go.Proofs.Ytjfggmkfnofldaa
