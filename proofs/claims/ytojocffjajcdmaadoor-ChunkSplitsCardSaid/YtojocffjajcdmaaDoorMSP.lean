/- slices.Chunk over rows: what its iterator hands over; the caller's law for an iterator without cells of its own. -/
import Derived.Test.YtojocffjajcdmaaDoorMX
import Derived.Test.YtojocffjajcdmaaDoorMCL
import Derived.Test.YtojocffjajcdmaaDoorMZ
namespace Go.Proofs.YtojocffjajcdmaaDoor.RF
open Go Go.RowKit Go.Shelf Go.Proofs.YtojocffjajcdmaaDoor Go.Proofs.YtojocffjajcdmaaDoorW.PrintWords Go.Proofs.YtojocffjajcdmaaDoorW.PrintLast Go.Proofs.YtojocffjajcdmaaDoorW.PrintMore PChunkAll
set_option linter.unusedVariables false
set_option linter.unusedSimpArgs false
attribute [local go_sem] Oper.semAt_some

section
/-- It minds nothing that turns in the two blocks from B on. -/
def Stout1 {β : Type} (B : Nat) (I : β → World → Prop) : Prop := ∀ s X Y row, I s X → X.grownBy Y row → (∀ r, row = some r → B ≤ r ∧ r ≤ B + 1) → I s Y
/-- It minds no new block, and no draw. -/
def Still {β : Type} (J : β → World → Prop) : Prop := ∀ s X Y, J s X → X.grownBy Y none → J s Y
theorem Stout1.putObj {β : Type} {B : Nat} {I : β → World → Prop} (h : Stout1 B I) {s : β} {W : World} {l : Nat} (o' : Obj) (hs : I s W) (hB : B ≤ l ∧ l ≤ B + 1) : I s (W.putObj l o') :=
  h s W _ (some l) hs (grownBy_putObj' W l o') (fun r e => by cases e; exact hB)
theorem Stout1.alloc {β : Type} {B : Nat} {I : β → World → Prop} (h : Stout1 B I) {s : β} {W : World} (o : Obj) (hs : I s W) : I s (W.alloc o) :=
  h s W _ none hs (World.grownBy_alloc W o none) (fun r e => by cases e)
/-- What an iterator without cells of its own answers, whatever a round does that keeps Kp. -/
def SeqD {α : Type} (F : Fence) (n : Nat) (P : Program) (g : Nat) (lb : Array Value) (encs : α → Array Value) (Kp : World → World → Prop) (S Sp : List α → Prop) (T : List α → α → Prop) (w : World) : Prop :=
  ∀ (l : Nat) (J Jx : List α → World → Prop) (W : World), Below w.heap.size w W → Still J → Still Jx →
    (∀ pre x X, J pre X → T pre x → YieldAt F (n - 1) P l (encs x) X fun e Y =>
      (e = .returned (.bool true) ∧ J (pre ++ [x]) Y ∧ Kp X Y) ∨ (e = .returned (.bool false) ∧ Jx (pre ++ [x]) Y)) →
    J [] W →
    CallsIn F n P g (#[.func (.yield l) #[] #[]] ++ lb) W fun e Y => (∃ v, e = .returned v) ∧ ((∃ xs, S xs ∧ J xs Y) ∨ (∃ pre, Sp pre ∧ Jx pre Y))

variable {F : Fence} {n : Nat} {P : Program}
theorem wpIn_range0 {α : Type} {g : Operand} {ps : Array Tmp} {assign body : Code} {Q : Exit → Act → World → Prop} {a : Act} {w : World}
    (hro : F.round = none) (h1 : 1 ≤ n) {gf : Nat} {lb : Array Value} (hg : a.eval g = .func (.func gf) #[] lb) (hFg : F.fn gf) (eg : ∀ args w, (callFunc gf args).run P w = .ok (.enter gf args) w)
    {encs : α → Array Value} {Kp : World → World → Prop} {S Sp : List α → Prop} {T : List α → α → Prop} {w0 : World} (hseq : SeqD F (n - 1) P gf lb encs Kp S Sp T w0)
    (hKt : ∀ {A B C : World}, Kp A B → Kp B C → Kp A C) (hKb : ∀ (W : World) (l : Nat) (o o' : Obj), w.heap.size ≤ l → W.heap[l]? = some o → o.isCells = false → Kp W (W.putObj l o')) (hb0 : Below w0.heap.size w0 w) (hps : ∀ x, (encs x).size = ps.size)
    (I : List α → World → Prop) (Ix : Code → List α → World → Prop) (hI : Stout1 w.heap.size I) (hIx : ∀ c, Stout1 w.heap.size (Ix c)) (h0 : I [] w) (Ax : α → Act → World → Prop)
    (hAx : ∀ x a' W l o o', Ax x a' W → w.heap.size ≤ l → W.heap[l]? = some o → o.isCells = false → Ax x a' (W.putObj l o'))
    (hassign : ∀ (l : Nat) (pre : List α) (x : α) (W : World) (K : Act → World → Prop), I pre W → w.heap.size + 2 ≤ W.heap.size → (∀ a' Y, KeepsFrom w.heap.size W Y → Kp W Y → I pre Y → Ax x a' Y → K a' Y) →
      assign.wpIn (F.inRound l) (n - 1 - 1) P (Exit.then K (fun _ _ _ => False)) { tmps := (ps.zip (encs x)).foldl (fun t (p, v) => t.setIfInBounds p v) a.tmps, defers := [] } W)
    (hbody : ∀ (l : Nat) (pre : List α) (x : α) (a' : Act) (W : World), w.heap.size + 2 ≤ W.heap.size → I pre W → Ax x a' W → T pre x → body.wpIn (F.inRound l) (n - 1 - 1) P (ownPostG w.heap.size Kp I Ix (pre ++ [x]) W) a' W)
    (hdone : ∀ (D : Nat) (xs : List α) (W : World), w.heap.size = D → S xs → I xs W → W.heap[D]? = some (.deferred (some [])) → Q .normal { a with defers := { target := .collected D, args := #[] } :: a.defers } W)
    (hstop : ∀ (D : Nat) (c : Code) (pre : List α) (W : World), w.heap.size = D → Sp pre → Ix c pre W → W.heap[D]? = some (.deferred (some [])) → c.wpIn F n P Q { a with defers := { target := .collected D, args := #[] } :: a.defers } W) :
    (Code.rangeFunc g ps assign body).wpIn F n P Q a w := by
  refine wpIn_rangeFunc ?_
  intro fn hfn
  rw [hro]
  -- the loop's record, and the world in which the iterator is called
  obtain ⟨rec, hrec⟩ : ∃ rec : LoopState → Option Code → Loop, rec = fun st pe => { state := st, pending := pe, fn, tmps := a.tmps, params := ps, assign, body, defers := w.heap.size } := ⟨_, rfl⟩
  obtain ⟨V, hV⟩ : ∃ V, (w.alloc (.deferred (some []))).alloc (.loop (rec .ready none)) = V := ⟨_, rfl⟩
  have hsz : V.heap.size = w.heap.size + 2 := by rw [← hV]; simp
  have vl : V.heap[w.heap.size + 1]? = some (.loop (rec .ready none)) := by
    rw [← hV]; have := World.alloc_heap_new (w.alloc (.deferred (some []))) (.loop (rec .ready none)); rwa [World.size_alloc] at this
  have vd : V.heap[w.heap.size]? = some (.deferred (some [])) := by
    rw [← hV]; exact (Below.heap_alloc _ _ _ (by simp)).trans (World.alloc_heap_new w _)
  have vi : I [] V := by rw [← hV]; exact hI.alloc _ (hI.alloc _ h0)
  have vb : Below w0.heap.size w0 V := by
    rw [← hV]; exact hb0.trans ((((Below.refl _ w).alloc (Nat.le_refl _) _).alloc (by simp) _).mono hb0.size)
  refine ⟨w.heap.size + 1, [{ target := .collected w.heap.size, args := #[] }], V, { target := .fn (.func gf) lb, args := #[.func (.yield (w.heap.size + 1)) #[] #[]] }, V, gf,
    #[.func (.yield (w.heap.size + 1)) #[] #[]] ++ lb, V, ?_, ?_, ?_, ?_, fun _ => h1, ?_⟩
  · rw [← hV, hrec]; exact run_enterLoop_outer _ _ _ _ _
  · simp only [resolve, hg]
    simp [go_sem]
  · intro f' hf'; simp [Target.leads] at hf'; subst hf'; exact hFg
  · simp [invoke, go_sem, eg]
  · refine (hseq (w.heap.size + 1)
      (fun pre W => I pre W ∧ W.heap[w.heap.size + 1]? = some (.loop (rec .ready none)) ∧ W.heap[w.heap.size]? = some (.deferred (some [])))
      (fun pre W => ∃ c, Ix c pre W ∧ W.heap[w.heap.size + 1]? = some (.loop (rec .done (some c))) ∧ W.heap[w.heap.size]? = some (.deferred (some [])))
      V vb
      (fun s X Y hs hg' => ⟨hI s X Y none hs.1 hg' (fun r e => by cases e), grown_same hg' (fun r e => by cases e) hs.2.1 rfl, grown_same hg' (fun r e => by cases e) hs.2.2 rfl⟩)
      (fun s X Y hs hg' => by
        obtain ⟨c, hc, hl, hk⟩ := hs
        exact ⟨c, hIx c s X Y none hc hg' (fun r e => by cases e), grown_same hg' (fun r e => by cases e) hl rfl, grown_same hg' (fun r e => by cases e) hk rfl⟩)
      ?_ ⟨vi, vl, vd⟩).mono ?_
    · -- a round
      rintro pre x W ⟨hi, hl, hk⟩ hlen
      have hlt : w.heap.size + 1 < W.heap.size := (Array.getElem?_eq_some_iff.1 hl).1
      have hy := run_yield (P := P) (args := encs x) hl (by rw [hrec]; exact hps x)
      rw [hrec] at hy
      refine ⟨fn, _, assign, body, hy, roundIn_of_wpIn hfn (hassign _ pre x W _ hi (by omega) ?_)⟩
      clear hy
      intro a' Wa kf kp hia hax
      have hl1 := kf.same _ _ (by omega) hl rfl
      have hk1 := kf.same _ _ (Nat.le_refl _) hk rfl
      have hlt1 : w.heap.size + 1 < Wa.heap.size := (Array.getElem?_eq_some_iff.1 hl1).1
      refine ⟨_, run_beginRound hl1 (by rw [hrec]), ?_⟩
      have hl2 : (Wa.putObj (w.heap.size + 1) (.loop { rec .ready none with state := .busy })).heap[w.heap.size + 1]? = some (.loop { rec .ready none with state := .busy }) := World.putObj_heap_same hlt1
      have hk2 : (Wa.putObj (w.heap.size + 1) (.loop { rec .ready none with state := .busy })).heap[w.heap.size]? = some (.deferred (some [])) := (World.putObj_heap_other (by omega)).trans hk1
      have kp2 : Kp Wa (Wa.putObj (w.heap.size + 1) (.loop { rec .ready none with state := .busy })) := hKb _ _ _ _ (by omega) hl1 rfl
      refine wpIn_mono (hbody _ pre x a' _ (by have := kf.size; simp; omega) (hI.putObj _ hia ⟨by omega, by omega⟩) (hAx x a' _ _ _ _ hax (by omega) hl1 rfl) hlen) ?_
      have fin : ∀ (jump : Option Code) (W3 : World), KeepsFrom w.heap.size (Wa.putObj (w.heap.size + 1) (.loop { rec .ready none with state := .busy })) W3 →
          (Instr.endRound (w.heap.size + 1) jump).run P W3 = .ok (.bool jump.isNone) (W3.putObj (w.heap.size + 1) (.loop (rec (if jump.isNone then .ready else .done) jump))) ∧
          W3.heap[w.heap.size + 1]? = some (.loop { rec .ready none with state := .busy }) ∧
          (W3.putObj (w.heap.size + 1) (.loop (rec (if jump.isNone then .ready else .done) jump))).heap[w.heap.size + 1]? = some (.loop (rec (if jump.isNone then .ready else .done) jump)) ∧
          (W3.putObj (w.heap.size + 1) (.loop (rec (if jump.isNone then .ready else .done) jump))).heap[w.heap.size]? = some (.deferred (some [])) := fun jump W3 k3 => by
        have hl3 := k3.same _ _ (by omega) hl2 rfl
        have := run_endRound (P := P) jump hl3
        rw [hrec] at this ⊢
        exact ⟨this, by rw [hrec] at hl3; exact hl3, World.putObj_heap_same (Array.getElem?_eq_some_iff.1 hl3).1, (World.putObj_heap_other (by omega)).trans (k3.same _ _ (Nat.le_refl _) hk2 rfl)⟩
      rintro e a3 W3 hp
      cases e with
      | normal =>
        obtain ⟨k3, kp3, hi3⟩ := hp
        obtain ⟨hr, hl3, hl4, hk4⟩ := fin none W3 k3
        exact ⟨_, _, hr, .inl ⟨rfl, ⟨hI.putObj _ hi3 ⟨by omega, by omega⟩, hl4, hk4⟩, hKt kp (hKt (hKt kp2 kp3) (hKb _ _ _ _ (by omega) hl3 rfl))⟩⟩
      | ret =>
        obtain ⟨k3, hi3⟩ := hp
        obtain ⟨hr, hl3, hl4, hk4⟩ := fin (some .ret) W3 k3
        exact ⟨_, _, hr, .inr ⟨rfl, .ret, (hIx _).putObj _ hi3 ⟨by omega, by omega⟩, hl4, hk4⟩⟩
      | exit id =>
        obtain ⟨k3, hi3⟩ := hp
        obtain ⟨hr, hl3, hl4, hk4⟩ := fin (some (.exit id)) W3 k3
        exact ⟨_, _, hr, .inr ⟨rfl, .exit id, (hIx _).putObj _ hi3 ⟨by omega, by omega⟩, hl4, hk4⟩⟩
      | goto t =>
        obtain ⟨k3, hi3⟩ := hp
        obtain ⟨hr, hl3, hl4, hk4⟩ := fin (some (.goto t)) W3 k3
        exact ⟨_, _, hr, .inr ⟨rfl, .goto t, (hIx _).putObj _ hi3 ⟨by omega, by omega⟩, hl4, hk4⟩⟩
      | panic ch => exact hp.elim
      | outgrown => exact hp.elim
    · -- behind the iterator
      rintro e W2 ⟨⟨v, rfl⟩, (⟨xs, hS, hi, hl, hk⟩ | ⟨pre, hSp, c, hi, hl, hk⟩)⟩
      · exact ⟨none, _, by have := run_endLoop (P := P) hl (by rw [hrec]; simp); rw [hrec] at this; exact this, hdone _ xs _ rfl hS (hI.putObj _ hi ⟨by omega, by omega⟩) ((World.putObj_heap_other (by omega)).trans hk)⟩
      · exact ⟨some c, _, by have := run_endLoop (P := P) hl (by rw [hrec]; simp); rw [hrec] at this; exact this, hstop _ c pre _ rfl hSp ((hIx c).putObj _ hi ⟨by omega, by omega⟩) ((World.putObj_heap_other (by omega)).trans hk)⟩
end
/-! ### Pieces -/
/-- How many pieces. -/
def cutN (L N : Nat) : Nat := (L + N - 1) / N
theorem cutN_lt {L N j : Nat} (hN : 1 ≤ N) : j < cutN L N ↔ j * N < L := by
  unfold cutN
  rw [Nat.lt_div_iff_mul_lt (by omega)]
  have e : L + N - 1 - (N - 1) = L := by omega
  rw [e, Nat.mul_comm]
def starts (L N : Nat) : List Nat := (List.range (cutN L N)).map (· * N)
theorem starts_len (L N : Nat) : (starts L N).length = cutN L N := by simp [starts]
theorem starts_take {L N j : Nat} (h : j < cutN L N) : (starts L N).take (j + 1) = (starts L N).take j ++ [j * N] := by
  have hl : j < (starts L N).length := by rw [starts_len]; exact h
  rw [List.take_succ_eq_append_getElem hl]
  congr 2
  simp [starts]
abbrev pieceV (b o L N i : Nat) : Value := .slice (some ⟨b, o + i * 3, none⟩) (min N (L - i)) (min N (L - i))

set_option maxHeartbeats 4000000 in
theorem chunkit_any (A : Option Addr) (n c N : Nat) (w : World) (hN : 1 ≤ N) : Calls Tryd.prog 103 #[.slice A n c, .int .i64 (N : Int)] w fun e w' =>
    e = .returned (.func (.func 148) #[] #[.pointer (some ⟨w.heap.size, 0, none⟩), .pointer (some ⟨w.heap.size + 1, 0, none⟩)]) ∧ w' = (w.alloc (.cells #[.slice A n c] 51)).alloc (.cells #[.int .i64 (N : Int)] 3) := by
  have d1 : decide ((N : Int) < 1) = false := decide_eq_false (by omega)
  go_enter Tryd.func103, Tryd.ntmps103
  go_wp2
  go_ret
  exact ⟨by simp, rfl⟩

theorem meas_lt {L N i : Nat} (h : i < L) (hN : 1 ≤ N) : L + N - (i + N) < L + N - i := by omega
theorem toNat_add (i N : Nat) : ((i : Int) + (N : Int)).toNat = i + N := by omega
theorem grownBy_drewN (W : World) (k : Nat) : W.grownBy (W.drewN k) none := ⟨rfl, rfl, rfl, Nat.le_refl _, fun _ _ _ => rfl⟩
set_option maxRecDepth 100000 in
set_option maxHeartbeats 4000000 in
/-- The iterator's body. -/
theorem chunk1_in (n : Nat) (hn : 1 ≤ n) (S : Nat → Prop) (l Bn Bm b o c L N : Nat) (J Jx : List Nat → World → Prop) (W : World)
    (hSn : ¬ S Bn) (hSm : ¬ S Bm) (hJ : Still J)
    (hY : ∀ pre x X, J pre X → (pre ++ [x]) <+: starts L N → YieldAt Fence.wide (n - 1) Tryd.prog l #[pieceV b o L N x] X fun e Y =>
      (e = .returned (.bool true) ∧ J (pre ++ [x]) Y ∧ KpS S X Y) ∨ (e = .returned (.bool false) ∧ Jx (pre ++ [x]) Y))
    (hBn : W.cell? ⟨Bn, 0, none⟩ = some (.slice (some ⟨b, o, none⟩) L c)) (hBm : W.cell? ⟨Bm, 0, none⟩ = some (.int .i64 (N : Int))) (hLc : L ≤ c) (hN1 : 1 ≤ N) (hN2 : N ≤ 1000) (hm : L < 4611686018427387904) (h0 : J [] W) :
    CallsIn Fence.wide n Tryd.prog 148 #[.func (.yield l) #[] #[], .pointer (some ⟨Bn, 0, none⟩), .pointer (some ⟨Bm, 0, none⟩)] W fun e Y => (∃ v, e = .returned v) ∧
      ((∃ ys, ys = starts L N ∧ J ys Y) ∨ (∃ pre, pre <+: starts L N ∧ Jx pre Y)) := by
  have HY := Lib.hid hY
  have HJC := Lib.hid hJ
  have H0 := Lib.hid h0
  clear hY h0 hJ
  refine callsIn_of_wp Tryd.func148 rfl trivial ?_ rfl
  simp only [Tryd.ntmps148, List.size_toArray, List.length_cons, List.length_nil, Nat.reduceAdd, Nat.reduceSub, Array.replicate_succ, Array.replicate_zero, List.push_toArray, List.append_toArray, List.nil_append, List.cons_append]
  gi_wp2
  gi_loopw [4, 5] (fun v4 v5 wr => ∃ (j i : Nat), v4 = .int .i64 (i : Int) ∧ Hid (i = j * N ∧ j ≤ cutN L N) ∧ i < L + N ∧ Hid (J ((starts L N).take j) wr) ∧ Hid (wr.cell? ⟨Bn, 0, none⟩ = some (.slice (some ⟨b, o, none⟩) L c) ∧ wr.cell? ⟨Bm, 0, none⟩ = some (.int .i64 (N : Int))))
    (fun v4 v5 wr => L + N - (intOf v4).toNat)
  case atStart => exact ⟨0, 0, rfl, ⟨by simp, Nat.zero_le _⟩, by omega, H0, Lib.hid ⟨hBn, hBm⟩⟩
  case round =>
    obtain ⟨j, i, rfl, HJ, hiL, HI, HC⟩ := hrel
    have x0 := HC.out.1
    have x1 := HC.out.2
    by_cases hlt : i < L
    · have hltz : (i : Int) < (L : Int) := by omega
      have hj : j < cutN L N := (cutN_lt hN1).2 (by rw [← HJ.out.1]; exact hlt)
      have hnx : Hid ((starts L N).take (j + 1) = (starts L N).take j ++ [i]) := by show _ = _; rw [HJ.out.1]; exact starts_take hj
      have htl : Hid ((starts L N).take j ++ [i] <+: starts L N) := by show _ <+: _; rw [← hnx.out]; exact List.take_prefix _ _
      have HJ2 : Hid (i + N = (j + 1) * N ∧ j + 1 ≤ cutN L N) := ⟨by rw [Nat.succ_mul, ← HJ.out.1], hj⟩
      clear hj
      obtain ⟨m, hm0⟩ : ∃ m, m = min N (L - i) := ⟨_, rfl⟩
      have hm1 : 1 ≤ m := by omega
      have hm2 : i + m ≤ L := by omega
      have hm3 : i + m ≤ c := by omega
      have hmin : min (N : Int) ((L - i : Nat) : Int) = (m : Int) := by omega
      have hw1 : IntKind.i64.wrap ((i : Int) + (m : Int)) = ((i + m : Nat) : Int) := by rw [IntKind.wrap_i64]; omega
      have hw2 : IntKind.i64.wrap ((i : Int) + (N : Int)) = ((i + N : Nat) : Int) := by rw [IntKind.wrap_i64]; omega
      have hw3 : wrap64 ((i : Int) + (m : Int)) = ((i + m : Nat) : Int) := by unfold wrap64; omega
      have hw4 : wrap64 ((i : Int) + (N : Int)) = ((i + N : Nat) : Int) := by unfold wrap64; omega
      have hq1 : ¬ (L - i = 0) := by omega
      have hq2 : ¬ (c - i = 0) := by omega
      have hq3 : i + m - i = m := by omega
      have hq4 : (i : Int) ≤ (L : Int) := by omega
      have hq5 : ((i + m : Nat) : Int) ≤ (c : Int) := by omega
      have HM0 := Lib.hid hm0
      clear hm0
      gi_wp2
      gi_quiet_th (fail)
      have hj2 := HJC.out _ wr (wr.drewN nq) HI.out (grownBy_drewN wr nq)
      obtain ⟨fn, tmps, assign, body, hy, hR⟩ := HY.out _ i _ hj2 htl.out
      rw [show pieceV b o L N i = .slice (some ⟨b, o + i * 3, none⟩) m m from by rw [HM0.out]] at hy
      have y0 : (wr.drewN nq).cell? ⟨Bn, 0, none⟩ = some (.slice (some ⟨b, o, none⟩) L c) := x0
      gi_wp2
      refine hR.mono ?_
      rintro e W3 (⟨rfl, hJ3, hk3⟩ | ⟨rfl, hJx3⟩)
      · have z0 := hk3.cell (a := ⟨Bn, 0, none⟩) hSn y0
        have z1 := hk3.cell (a := ⟨Bm, 0, none⟩) hSm (show (wr.drewN nq).cell? ⟨Bm, 0, none⟩ = some (.int .i64 (N : Int)) from x1)
        have HJ3 : Hid (J ((starts L N).take (j + 1)) W3) := by show J _ _; rw [hnx.out]; exact hJ3
        have HC3 := Lib.hid (And.intro z0 z1)
        clear hJ3 hk3 y0 x0 x1
        gi_wp2
        go_roundw
        case rel => exact ⟨j + 1, i + N, by go_num, HJ2, Nat.add_lt_add_right hlt N, HJ3, HC3⟩
        case measure => simpa [intOf, toNat_add] using meas_lt hlt hN1
      · gi_wp2
        refine bodyPost_ret (results_none rfl _ _ _) rfl ?_
        exact ⟨⟨_, rfl⟩, .inr ⟨(starts L N).take j ++ [i], htl.out, hJx3⟩⟩
    · have hltz : ¬ (i : Int) < (L : Int) := by omega
      have hj : j = cutN L N := by
        have h1 := HJ.out.2
        have h2 : ¬ j < cutN L N := fun h => hlt (by have := (cutN_lt hN1).1 h; rw [HJ.out.1]; exact this)
        omega
      subst hj
      gi_wp2
      go_end0
      have hfin := HI.out
      rw [List.take_of_length_le (by rw [starts_len]; exact Nat.le_refl _)] at hfin
      refine ⟨⟨_, rfl⟩, .inl ?_⟩
      first
        | exact ⟨_, rfl, hfin⟩
        | exact hfin
/-- What slices.Chunk answers, whatever a round does. -/
theorem chunk_seq (S : Nat → Prop) (Bn Bm b o c L N n : Nat) (hn : 1 ≤ n) (w : World) (hSn : ¬ S Bn) (hSm : ¬ S Bm) (hBn : w.cell? ⟨Bn, 0, none⟩ = some (.slice (some ⟨b, o, none⟩) L c)) (hBm : w.cell? ⟨Bm, 0, none⟩ = some (.int .i64 (N : Int)))
    (hLc : L ≤ c) (hN1 : 1 ≤ N) (hN2 : N ≤ 1000) (hm : L < 4611686018427387904) :
    SeqD Fence.wide n Tryd.prog 148 #[.pointer (some ⟨Bn, 0, none⟩), .pointer (some ⟨Bm, 0, none⟩)] (fun x : Nat => #[pieceV b o L N x]) (KpS S) (fun ys => ys = starts L N) (fun pre => pre <+: starts L N) (fun pre x => (pre ++ [x]) <+: starts L N) w := by
  intro l J Jx W hW hJ hJx hY h0
  exact chunk1_in n hn S l Bn Bm b o c L N J Jx W hSn hSm hJ hY (pw_cell_below hW hBn) (pw_cell_below hW hBm) hLc hN1 hN2 hm h0
end Go.Proofs.YtojocffjajcdmaaDoor.RF
/- A region of a round that draws its order, where a condition on the world holds behind every operation but the last one. -/
namespace Go.Proofs.YtojocffjajcdmaaDoor.RF
open Go Go.RowKit Go.Sort
set_option linter.unusedVariables false
set_option linter.unusedSimpArgs false
section
variable {F : Fence} {n : Nat} {P : Program} {ops : Array Oper} {Q : Exit → Act → World → Prop} {md : Region.Mode} {S : World → Prop} {z : Nat}
/-- Whatever order is picked; S holds behind every operation but z. -/
def AnyG (F : Fence) (n : Nat) (P : Program) (md : Region.Mode) (ops : Array Oper) (Q : Exit → Act → World → Prop) (S : World → Prop) (z : Nat) : Nat → Array Bool → Act → World → Prop
  | 0, listed, a, w => Region.ready md ops listed = [] ∧ Q .normal a w
  | k + 1, listed, a, w => (Region.ready md ops listed = [] → Q .normal a w) ∧ ∀ i ∈ Region.ready md ops listed, wpOpIn F n P ops Q i (fun a' w' => (i ≠ z → S w') ∧ AnyG F n P md ops Q S z k (listed.setIfInBounds i true) a' w') a w
theorem AnyG.any : ∀ (k : Nat) (listed : Array Bool) (a : Act) (w : World), AnyG F n P md ops Q S z k listed a w → wpAnyIn F n P md ops Q k listed a w
  | 0, _, _, _, h => h
  | k + 1, _, _, _, h => ⟨h.1, fun i hi => wpOpIn_mono (fun a' w' h' => AnyG.any k _ a' w' h'.2) (h.2 i hi)⟩

/-- z is told to come behind i. -/
def lastB (md : Region.Mode) (ops : Array Oper) (z i : Nat) : Bool := z == i || match ops[z]? with
  | some o => o.after.toList.any fun e => Region.binds md e && e.on == i
  | none => true
theorem lastB_spec {z i : Nat} (h : lastB md ops z i = true) : ∀ oz, ops[z]? = some oz → z ≠ i → ∃ e ∈ oz.after, Region.binds md e = true ∧ e.on = i := by
  intro oz ho hne
  unfold lastB at h
  rw [ho] at h
  simp only [Bool.or_eq_true, beq_iff_eq, hne, false_or] at h
  obtain ⟨e, he, h2⟩ := List.any_eq_true.1 h
  simp only [Bool.and_eq_true, beq_iff_eq] at h2
  exact ⟨e, by simpa using he, h2.1, h2.2⟩

/-- What yields in every world that meets S may be taken first. -/
theorem AnyG.first {i : Nat} {oi : Oper} {v : Value} (hf : Free F ops) (hi : ops[i]? = some oi) (hsel : ∀ (j : Nat) (o : Oper) cs b, ops[j]? = some o → o.op ≠ .select cs b)
    (hz : ∀ oz, ops[z]? = some oz → z ≠ i → ∃ e ∈ oz.after, Region.binds md e = true ∧ e.on = i)
    (hQ : ∀ c a w, Q (.panic c) (a.put oi.dst v) w → Q (.panic c) a w) :
    ∀ (k : Nat) (listed : Array Bool) (a : Act) (w : World),
      (∀ j oj, ops[j]? = some oj → j ≠ i → listed.getD j true = false → (∀ e ∈ oj.after, Region.binds md e = true → e.on ≠ i) → oi.apart ops oj = true) →
      i ∈ Region.ready md ops listed → YieldsIf P ops S oi v a → S w →
      AnyG F n P md ops Q S z k (listed.setIfInBounds i true) (a.put oi.dst v) w → AnyG F n P md ops Q S z (k + 1) listed a w := by
  intro k
  induction k with
  | zero =>
    intro listed a w _ hr hy hS H
    refine ⟨fun h => (by rw [h] at hr; cases hr), fun j hj => ?_⟩
    by_cases hji : j = i
    · subst hji; exact yieldsIf_op hf hi hy hS ⟨fun _ => hS, H⟩
    · have := ready_mono hj hji
      rw [H.1] at this
      cases this
  | succ k ih =>
    intro listed a w hfree hr hy hS H
    refine ⟨fun h => (by rw [h] at hr; cases hr), fun j hj => ?_⟩
    by_cases hji : j = i
    · subst hji; exact yieldsIf_op hf hi hy hS ⟨fun _ => hS, H⟩
    · have h1 := H.2 j (ready_mono hj hji)
      obtain ⟨hjun, oj, hoj, hall⟩ := mem_ready.1 hj
      have hnot : ∀ e ∈ oj.after, Region.binds md e = true → e.on ≠ i := fun e he hb heq => by
        have h1 := hall e he hb
        have h0 := (mem_ready.1 hr).1
        rw [heq] at h1
        rcases Nat.lt_or_ge i listed.size with h' | h'
        · simp [h'] at h0 h1; rw [h0] at h1; cases h1
        · simp [Array.getElem?_eq_none h'] at h1
      have h2 := op_putIf hf hoj (hfree j oj hoj hji hjun hnot) (fun cs b => hsel i oi cs b hi) (fun cs b => hsel j oj cs b hoj) hQ hy h1
      have hfree' : ∀ q ok, ops[q]? = some ok → q ≠ i → (listed.setIfInBounds j true).getD q true = false →
          (∀ e ∈ ok.after, Region.binds md e = true → e.on ≠ i) → oi.apart ops ok = true := fun q ok hq hqi hun hno => by
        refine hfree q ok hq hqi ?_ hno
        by_cases hjq : j = q
        · subst hjq; exact hjun
        · rw [getD_set_ne true hjq] at hun; exact hun
      have hjz : j ≠ z := fun e => by
        subst e
        obtain ⟨e, he, hb, ho⟩ := hz oj hoj hji
        exact hnot e he hb ho
      refine wpOpIn_mono (fun a' w' h3 => ⟨fun _ => h3.2.1 hjz, ih (listed.setIfInBounds j true) a' w' hfree' (ready_mono hr (Ne.symm hji)) h3.1 (h3.2.1 hjz) ?_⟩) h2
      rw [Array.setIfInBounds_comm _ _ hji]
      exact h3.2.2
theorem AnyG.take {i : Nat} {oi : Oper} {v : Value} {k : Nat} {listed : Array Bool} {a : Act} {w : World} (hf : Free F ops) (hi : ops[i]? = some oi)
    (hs : Region.noSelect ops = true) (hz : lastB md ops z i = true) (hfr : Region.free md ops listed i = true) (hr : (Region.ready md ops listed).contains i = true)
    (hQ : ∀ c a w, Q (.panic c) (a.put oi.dst v) w → Q (.panic c) a w) (hS : S w) (hy : YieldsIf P ops S oi v a)
    (h : AnyG F n P md ops Q S z k (listed.setIfInBounds i true) (a.put oi.dst v) w) : AnyG F n P md ops Q S z (k + 1) listed a w :=
  AnyG.first hf hi (Region.noSelect_spec hs) (lastB_spec hz) hQ k listed a w (Region.free_spec hi hfr) (by simpa using hr) hy hS h
theorem AnyG.take' {i : Nat} {d : Option Tmp} {oi : Oper} {v : Value} {k : Nat} {listed : Array Bool} {a : Act} {w : World} (hf : Free F ops) (hi : ops[i]? = some oi) (hd : oi.dst = d)
    (hs : Region.noSelect ops = true) (hz : lastB md ops z i = true) (hfr : Region.free md ops listed i = true) (hr : (Region.ready md ops listed).contains i = true)
    (hQ : ∀ c a w, Q (.panic c) (a.put d v) w → Q (.panic c) a w) (hS : S w) (hy : YieldsIf P ops S oi v a)
    (h : AnyG F n P md ops Q S z k (listed.setIfInBounds i true) (a.put d v) w) : AnyG F n P md ops Q S z (k + 1) listed a w := by
  subst hd; exact AnyG.take hf hi hs hz hfr hr hQ hS hy h
/-- Only one may come up. -/
theorem AnyG.one {i : Nat} {oi : Oper} {k : Nat} {listed : Array Bool} {a : Act} {w : World} (hi : ops[i]? = some oi) (hr : Region.ready md ops listed = [i])
    (h : ∀ K : Act → World → Prop, (∀ a' w', (i ≠ z → S w') → AnyG F n P md ops Q S z k (listed.setIfInBounds i true) a' w' → K a' w') → if Region.wanted oi (yielded ops a.tmps) = true then Oper.wpIn F n P oi a w K Q else (∀ f, oi.about P w a.eval = some f → F.fn f) ∧ K (a.put oi.dst undef) w) : AnyG F n P md ops Q S z (k + 1) listed a w := by
  refine ⟨fun h0 => (by rw [hr] at h0; cases h0), fun j hj => ?_⟩
  rw [hr] at hj
  obtain rfl : j = i := by simpa using hj
  exact wpOpIn_step hi (fun K' hK => h K' (fun a' w' hS hW => hK a' w' ⟨hS, hW⟩))
/-- Two may come up. -/
theorem AnyG.two {i j : Nat} {k : Nat} {listed : Array Bool} {a : Act} {w : World} (hr : Region.ready md ops listed = [i, j])
    (h1 : wpOpIn F n P ops Q i (fun a' w' => (i ≠ z → S w') ∧ AnyG F n P md ops Q S z k (listed.setIfInBounds i true) a' w') a w) (h2 : wpOpIn F n P ops Q j (fun a' w' => (j ≠ z → S w') ∧ AnyG F n P md ops Q S z k (listed.setIfInBounds j true) a' w') a w) : AnyG F n P md ops Q S z (k + 1) listed a w := by
  refine ⟨fun h0 => (by rw [hr] at h0; cases h0), fun q hq => ?_⟩
  rw [hr] at hq
  simp at hq
  rcases hq with rfl | rfl
  · exact h1
  · exact h2
theorem AnyG.done {listed : Array Bool} {a : Act} {w : World} (hr : Region.ready md ops listed = []) (h : Q .normal a w) : ∀ k, AnyG F n P md ops Q S z k listed a w
  | 0 => ⟨hr, h⟩
  | _ + 1 => ⟨fun _ => h, by rw [hr]; simp⟩
theorem region_held_g {id : Nat} {a : Act} {w : World} {l : List Oper} (hm : P.follows .mixedOrders = true) (h : AnyG F n P .any l.toArray Q S z l.length (Array.replicate l.length false) a w.drew) : (Code.region id l.toArray true).wpIn F n P Q a w :=
  wpIn_region_any hm (by simpa using AnyG.any _ _ _ _ h)
end
/-- An append of a row to a row of one's own, inside a region of a round. -/
theorem stepIn_append_own {F : Fence} {n : Nat} {P : Program} (w : World) {ops : Array Oper} {o : Oper} {a : Act} {K : Act → World → Prop} {Q : Exit → Act → World → Prop} {E : Prop}
    (hg : o.guard = none) (s x : Operand) (t : TypeId) (hop : o.op = Op.call { callee := Callee.builtin Builtin.append, args := #[s, x], argTypes := #[t, t] })
    (base : Nat) (e : TypeId) (i : TypeInfo) (z : Value) (size bytes : Nat) (h1 : P.underlying t = some (.slice e)) (h2 : P.info? e = some i) (h3 : i.zero = some z) (h4 : i.size = size) (h5 : i.bytes = bytes) (h6 : z.cells.size = size) (h7 : 0 < size)
    (v : Value) (k : Nat) (xs : List Value) (hs : a.eval s = v) (hown : w.ownsRow base e size v k xs) (ad : Addr) (m c : Nat) (news : List Value) (hx : a.eval x = .slice (some ad) m c) (hn : news.length = m * size)
    (hc : ∀ j u, news[j]? = some u → w.cell? (ad.add j) = some u) (h1c : ∀ u ∈ news, u.oneCell' = true) (b1 : k + m ≤ maxLen) (b2 : (k + m) * bytes ≤ 140737488355328) (b3 : base ≤ w.heap.size)
    (hK : ∀ v' w', w'.ownsRow base e size v' (k + m) (xs ++ news) → w.grownBy w' v.ownBlock → K (a.put o.dst v') w') :
    if Region.wanted o (yielded ops a.tmps) = true then Oper.wpIn F n P o a w K Q else E := by
  have hw : Region.wanted o (yielded ops a.tmps) = true := by simp [Region.wanted, hg]
  rw [if_pos hw]
  obtain ⟨v', w', hrun, r1, r2, r3⟩ := run_append_own (P := P) w base t o.type e i z size bytes h1 h2 h3 h4 h5 h6 h7 v k xs hown ad m c news hn hc h1c b1 b2 b3
  unfold Oper.wpIn
  refine ⟨?_, ?_⟩
  · simp [Oper.about, hop, resolve, Target.leads, Sem.run_pure]
  · rw [Oper.semAt_plain F _ _ (by rw [hop]; intro c hc'; cases hc')]
    simp [execOp, hop, resolve, invoke, builtin, hs, hx, hrun, Result.andThen]
    exact hK v' w' r1 r2
end Go.Proofs.YtojocffjajcdmaaDoor.RF
/- The round of chunk.Split: a chunk more. -/
namespace Go.Proofs.YtojocffjajcdmaaDoor.RF
open Go Go.RowKit Go.Shelf Go.Sort Go.Proofs.YtojocffjajcdmaaDoor Go.Proofs.YtojocffjajcdmaaDoorW.PrintWords Go.Proofs.YtojocffjajcdmaaDoorW.PrintLast Go.Proofs.YtojocffjajcdmaaDoorW.PrintMore PChunkAll
set_option linter.unusedVariables false
set_option linter.unusedSimpArgs false
attribute [local go_sem] Oper.semAt_some

theorem info53 : (Tryd.prog.info? 53).map (fun i => (i.zero, i.size, i.bytes)) = some (some (.agg #[(.slice none 0 0), (.slice none 0 0)]), 2, 48) := by kernel_rfl
noncomputable def splitRound : Code := unblock (((Tryd.f43.body.bind firstRF).getD (.skip, .skip)).2)
theorem rcells_one (l : List S71) : ∀ u ∈ rcells l, u.oneCell' = true := by
  intro u hu
  obtain ⟨x, _, hx⟩ := List.mem_flatMap.1 hu
  simp only [List.mem_cons, List.not_mem_nil, or_false] at hx
  rcases hx with rfl | rfl | rfl <;> rfl
set_option maxHeartbeats 4000000 in
set_option maxRecDepth 100000 in
theorem split_round (l n : Nat) (c0 most : Value) (cb g5 Bs : Nat) (A1 : Option Addr) (c1 : Nat) (ls : List S112) (A2 : Value) (v : Value) (rs : List RK) (Ap : Addr) (cp : Nat) (pc : List S71) (W : World)
    (hch : Blk W cb #[.slice A1 ls.length c1, A2] 53) (hout : Blk W g5 #[v] 65) (hown : ChksO 53 71 Bs v rs W) (hBs : Bs ≤ W.heap.size) (hcb : cb < Bs) (hg5 : g5 < Bs)
    (hL : Kd.C k112 W A1 ls.length ls) (hls : ls.length < 4398046511104) (hpc : RowC W (some Ap) (rcells pc)) (hp : pc.length ≤ 1000) (hrs : rs.length ≤ 1000)
    (Q : Exit → Act → World → Prop) (hQp : ∀ c a w, ¬ Q (.panic c) a w) (u3 u4 u7 u8 u9 u10 u11 u12 u13 u14 u15 u16 u17 u18 u19 u20 u21 u22 u23 u24 u25 u26 u27 u28 u29 : Value) (pv : Value) (hpv : pv = .slice (some Ap) pc.length cp)
    (hQ : ∀ a' v' (r : RK) W3 W1, Below W.heap.size W W3 → W3.grownBy W1 v.ownBlock → Blk W1 g5 #[v] 65 → ChksO 53 71 Bs v' (rs ++ [r]) W1 → r.x = (ls, pc) → Q .normal a' (W1.setCell ⟨g5, 0, none⟩ v')) :
    splitRound.wpIn (Fence.wide.inRound l) n Tryd.prog Q ⟨#[c0, most, .pointer (some ⟨cb, 0, none⟩), u3, u4, .pointer (some ⟨g5, 0, none⟩), pv, u7, u8, u9, u10, u11, u12, u13, u14, u15, u16, u17, u18, u19, u20, u21, u22, u23, u24, u25, u26, u27, u28, u29], []⟩ W := by
  subst hpv
  have HCL := Lib.hid (fun W' (hb : Below W.heap.size W W') => clone_labs A1 ls.length c1 (lcells ls) W' (lcells_len _) (lcells_one _) ((lab_C hL).below hb) (by omega))
  have HCR := Lib.hid (fun W' (hb : Below W.heap.size W W') => clone_rows (some Ap) pc.length cp (rcells pc) W' (rcells_len _) (rcells_one _) (hpc.below hb) (by omega))
  obtain ⟨Av, cv, rfl, hcv⟩ := own_slice hown.own
  obtain ⟨i0, hi0, hz0, hz1, hz2⟩ := info_parts info53
  conv => arg 4; whnf
  refine region_held_g (z := 9) (S := fun w' => w'.cell? ⟨g5, 0, none⟩ = some (.slice Av rs.length cv) ∧ w'.cell? ⟨cb, 0, none⟩ = some (.slice A1 ls.length c1)) (by kernel_rfl) ?_
  have hs0 : W.drew.cell? ⟨g5, 0, none⟩ = some (.slice Av rs.length cv) ∧ W.drew.cell? ⟨cb, 0, none⟩ = some (.slice A1 ls.length c1) := ⟨hout.cell 0 _ rfl, hch.cell 0 _ rfl⟩
  have hb0 : Below W.heap.size W W.drew := (Below.refl _ _).drew
  -- 0
  refine AnyG.take' (i := 0) (d := some 20) ⟨fun _ => trivial, fun i o hi => plainOps_spec (by kernel_rfl) hi⟩ rfl (by kernel_rfl) (by kernel_rfl) (by kernel_rfl) (by kernel_rfl) (by kernel_rfl) (fun c a w h => absurd h (hQp c _ w)) hs0 (v := ?v0) (Or.inl ⟨by first | (go_simp; done) | rfl, fun w' hw' => ?y0⟩) ?_
  case y0 => have z0 := hw'.1; go_simp; (try rfl)
  simp only [Act.put, List.setIfInBounds_toArray, List.set_cons_zero, List.set_cons_succ]
  -- 1
  refine AnyG.take' (i := 1) (d := some 21) ⟨fun _ => trivial, fun i o hi => plainOps_spec (by kernel_rfl) hi⟩ rfl (by kernel_rfl) (by kernel_rfl) (by kernel_rfl) (by kernel_rfl) (by kernel_rfl) (fun c a w h => absurd h (hQp c _ w)) hs0 (v := ?v1) (Or.inl ⟨by first | (go_simp; done) | rfl, fun w' hw' => ?y1⟩) ?_
  case y1 => go_simp; (try rfl)
  simp only [Act.put, List.setIfInBounds_toArray, List.set_cons_zero, List.set_cons_succ]
  -- 2
  refine AnyG.take' (i := 2) (d := some 22) ⟨fun _ => trivial, fun i o hi => plainOps_spec (by kernel_rfl) hi⟩ rfl (by kernel_rfl) (by kernel_rfl) (by kernel_rfl) (by kernel_rfl) (by kernel_rfl) (fun c a w h => absurd h (hQp c _ w)) hs0 (v := ?v2) (Or.inl ⟨by first | (go_simp; done) | rfl, fun w' hw' => ?y2⟩) ?_
  case y2 => have z0 := hw'.2; go_simp; (try rfl)
  simp only [Act.put, List.setIfInBounds_toArray, List.set_cons_zero, List.set_cons_succ]
  -- 4
  refine AnyG.take' (i := 4) (d := some 24) ⟨fun _ => trivial, fun i o hi => plainOps_spec (by kernel_rfl) hi⟩ rfl (by kernel_rfl) (by kernel_rfl) (by kernel_rfl) (by kernel_rfl) (by kernel_rfl) (fun c a w h => absurd h (hQp c _ w)) hs0 (v := ?v4) (Or.inl ⟨by first | (go_simp; done) | rfl, fun w' hw' => ?y4⟩) ?_
  case y4 => go_simp; (try rfl)
  simp only [Act.put, List.setIfInBounds_toArray, List.set_cons_zero, List.set_cons_succ]
  refine AnyG.one (i := 3) rfl (by kernel_rfl) ?_
  intro K hK
  go_simp
  refine ⟨trivial, fun h => (by cases h), CallsIn.inRound l (callsIn_wide.2 ((HCL.out _ hb0).mono ?_))⟩
  rintro e w2 ⟨vl, rfl, hol, hbl⟩
  obtain ⟨A3, c3, rfl, hc3⟩ := own_slice hol
  dsimp only
  have hb1 := below_step hb0 hbl
  have hs1 : w2.cell? ⟨g5, 0, none⟩ = some (.slice Av rs.length cv) ∧ w2.cell? ⟨cb, 0, none⟩ = some (.slice A1 ls.length c1) := ⟨pw_cell_below hb1 (hout.cell 0 _ rfl), pw_cell_below hb1 (hch.cell 0 _ rfl)⟩
  refine hK _ _ (fun _ => hs1) ?_
  clear hK
  refine AnyG.one (i := 5) rfl (by kernel_rfl) ?_
  intro K hK
  go_simp
  refine ⟨trivial, fun h => (by cases h), CallsIn.inRound l (callsIn_wide.2 ((HCR.out _ hb1).mono ?_))⟩
  rintro e w3 ⟨vr, rfl, hor, hbr⟩
  obtain ⟨A4, c4, rfl, hc4⟩ := own_slice hor
  dsimp only
  have hb2 := below_step hb1 hbr
  have hs2 : w3.cell? ⟨g5, 0, none⟩ = some (.slice Av rs.length cv) ∧ w3.cell? ⟨cb, 0, none⟩ = some (.slice A1 ls.length c1) := ⟨pw_cell_below hb2 (hout.cell 0 _ rfl), pw_cell_below hb2 (hch.cell 0 _ rfl)⟩
  refine hK _ _ (fun _ => hs2) ?_
  clear hK
  -- 6
  refine AnyG.take' (i := 6) (d := some 26) ⟨fun _ => trivial, fun i o hi => plainOps_spec (by kernel_rfl) hi⟩ rfl (by kernel_rfl) (by kernel_rfl) (by kernel_rfl) (by kernel_rfl) (by kernel_rfl) (fun c a w h => absurd h (hQp c _ w)) hs2 (v := ?v6) (Or.inl ⟨by first | (go_simp; done) | rfl, fun w' hw' => ?y6⟩) ?_
  case y6 => go_simp; (try rfl)
  simp only [Act.put, List.setIfInBounds_toArray, List.set_cons_zero, List.set_cons_succ]
  refine AnyG.one (i := 7) rfl (by kernel_rfl) ?_
  intro K hK
  go_simp
  have hb3 := hb2.alloc hb2.size (.cells #[.slice A3 ls.length c3, .slice A4 pc.length c4] 53)
  have hs3 : (w3.alloc (.cells #[.slice A3 ls.length c3, .slice A4 pc.length c4] 53)).cell? ⟨g5, 0, none⟩ = some (.slice Av rs.length cv) ∧ (w3.alloc (.cells #[.slice A3 ls.length c3, .slice A4 pc.length c4] 53)).cell? ⟨cb, 0, none⟩ = some (.slice A1 ls.length c1) := ⟨pw_cell_below hb3 (hout.cell 0 _ rfl), pw_cell_below hb3 (hch.cell 0 _ rfl)⟩
  refine hK _ _ (fun _ => hs3) ?_
  clear hK
  have hbA : Below w3.heap.size w3 (w3.alloc (.cells #[.slice A3 ls.length c3, .slice A4 pc.length c4] 53)) := (Below.refl _ _).alloc (Nat.le_refl _) _
  have hown3 := hown.below hb3
  have hl3 : (w3.alloc (.cells #[.slice A3 ls.length c3, .slice A4 pc.length c4] 53)).ownsRow Bs 112 2 (.slice A3 ls.length c3) ls.length (lcells ls) := own_le (own_below (own_below hol hbr) hbA) hBs
  have hr3 : (w3.alloc (.cells #[.slice A3 ls.length c3, .slice A4 pc.length c4] 53)).ownsRow Bs 71 3 (.slice A4 pc.length c4) pc.length (rcells pc) := own_le (own_below hor hbA) (Nat.le_trans hBs hb1.size)
  have hnew : Blk (w3.alloc (.cells #[.slice A3 ls.length c3, .slice A4 pc.length c4] 53)) w3.heap.size #[.slice A3 ls.length c3, .slice A4 pc.length c4] 53 := Blk.new _ _ _ _ rfl
  have ho3 : Blk (w3.alloc (.cells #[.slice A3 ls.length c3, .slice A4 pc.length c4] 53)) g5 #[.slice Av rs.length cv] 65 := Blk.below hout hb3 hout.lt
  have hc3' : Blk (w3.alloc (.cells #[.slice A3 ls.length c3, .slice A4 pc.length c4] 53)) cb #[.slice A1 ls.length c1, A2] 53 := Blk.below hch hb3 hch.lt
  have hsz3 : Bs ≤ (w3.alloc (.cells #[.slice A3 ls.length c3, .slice A4 pc.length c4] 53)).heap.size := Nat.le_trans hBs hb3.size
  refine AnyG.one (i := 8) rfl (by kernel_rfl) ?_
  intro K hK
  refine stepIn_append_own _ rfl (.tmp 20) (.tmp 27) 65 rfl Bs 53 i0 _ 2 48 Tryd.underlying65 hi0 hz0 hz1 hz2 rfl (by decide) _ rs.length (rs.flatMap RK.cells) rfl hown3.own ⟨w3.heap.size, 0, none⟩ 1 1 (RK.cells ⟨A3, c3, ls, A4, c4, pc⟩) rfl rfl
    (fun j u hu => by rw [addr_add, Nat.zero_add]; exact hnew.cell j u (by simpa [RK.cells] using hu)) (RK.cells_one _) (by unfold maxLen; omega) (by omega) hsz3 ?_
  intro v' w4 hown4 hg4
  obtain ⟨A5, c5, rfl, hc5⟩ := own_slice hown4
  have hne5 : (Value.slice Av rs.length cv).ownBlock ≠ some g5 := fun e => by have := own_ge hown3.own e; omega
  have hnec : (Value.slice Av rs.length cv).ownBlock ≠ some cb := fun e => by have := own_ge hown3.own e; omega
  have ho4 := Blk.grown ho3 hg4 hne5
  have hc4' := Blk.grown hc3' hg4 hnec
  have hO4 : ChksO 53 71 Bs (.slice A5 (rs.length + 1) c5) (rs ++ [⟨A3, c3, ls, A4, c4, pc⟩]) w4 := hown3.snoc (by decide) (by decide) hown4 hg4 ⟨hc3, hl3⟩ ⟨hc4, hr3⟩
  refine hK _ _ (fun _ => ⟨ho4.cell 0 _ rfl, hc4'.cell 0 _ rfl⟩) ?_
  clear hK
  simp only [Act.put, List.setIfInBounds_toArray, List.set_cons_zero, List.set_cons_succ]
  refine AnyG.one (i := 9) rfl (by kernel_rfl) ?_
  intro K hK
  have q0 := ho4.cell 0 _ rfl
  have q1 := ho4.frozen 0
  have HQQ := Lib.hid hQ
  clear hQ
  go_simp
  refine hK _ _ (fun h => absurd rfl h) ?_
  exact AnyG.done (by kernel_rfl) (HQQ.out _ _ ⟨A3, c3, ls, A4, c4, pc⟩ _ w4 hb3 hg4 ho4 hO4 rfl) _
end Go.Proofs.YtojocffjajcdmaaDoor.RF
/- chunk.Split: walked. -/
namespace Go.Proofs.YtojocffjajcdmaaDoor.RF
open Go Go.RowKit Go.Shelf Go.Sort Go.Proofs.YtojocffjajcdmaaDoor Go.Proofs.YtojocffjajcdmaaDoorW.PrintWords Go.Proofs.YtojocffjajcdmaaDoorW.PrintLast Go.Proofs.YtojocffjajcdmaaDoorW.PrintMore PChunkAll
set_option linter.unusedVariables false
set_option linter.unusedSimpArgs false
attribute [local go_sem] Oper.semAt_some

def cutOf (ls : List S112) (rows : List S71) (N : Nat) (is : List Nat) : List (List S112 × List S71) := is.map fun i => (ls, (rows.drop i).take N)
/-- What a chunk is split into. -/
def splitC (ls : List S112) (rows : List S71) (most : Int) : List (List S112 × List S71) := if rightC ls rows = true ∧ 1 ≤ most then cutOf ls rows (min most.toNat 1000) (starts rows.length (min most.toNat 1000)) else []
def SplP (T E : Nat) (w : World) (l : List (List S112 × List S71)) (e : Ending) (w' : World) : Prop :=
  ∃ A c rs, e = .returned (.slice A (List.length rs) c) ∧ rs.map RK.x = l ∧ ChksO T E w.heap.size (.slice A rs.length c) rs w' ∧ Below w.heap.size w w'

theorem own_grow {W W' : World} {B : Nat} {e : TypeId} {k n : Nat} {v : Value} {xs : List Value} {row : Option Nat} (h : W.ownsRow B e k v n xs) (hg : W.grownBy W' row) (hr : ∀ r, row = some r → r < B) : W'.ownsRow B e k v n xs := by
  refine ⟨h.1, ?_⟩
  rcases h.2 with h2 | ⟨g, cap, cur, h2, h3, h4, h5⟩
  · exact .inl h2
  · exact .inr ⟨g, cap, cur, h2, h3, (hg.block g (Array.getElem?_eq_some_iff.1 h4).1 (fun q => by have := hr g q.symm; omega)).trans h4, h5⟩
theorem ChksO.grow {T E B : Nat} {v : Value} {rs : List RK} {W W' : World} {row : Option Nat} (h : ChksO T E B v rs W) (hg : W.grownBy W' row) (hr : ∀ r, row = some r → r < B) : ChksO T E B v rs W' :=
  ⟨own_grow h.own hg hr, fun r h' => ⟨(h.labs r h').1, own_grow (h.labs r h').2 hg hr⟩, fun r h' => ⟨(h.rows r h').1, own_grow (h.rows r h').2 hg hr⟩⟩
theorem ChksO.le {T E B B' : Nat} {v : Value} {rs : List RK} {W : World} (h : ChksO T E B v rs W) (hB : B' ≤ B) : ChksO T E B' v rs W :=
  ⟨own_le h.own hB, fun r h' => ⟨(h.labs r h').1, own_le (h.labs r h').2 hB⟩, fun r h' => ⟨(h.rows r h').1, own_le (h.rows r h').2 hB⟩⟩
theorem own_cells {W : World} {B : Nat} {e : TypeId} {k n : Nat} {v : Value} {xs : List Value} (h : W.ownsRow B e k v n xs) : ∀ j o, v.ownBlock = some j → W.heap[j]? = some o → o.isCells = true := by
  intro j o hj ho
  rcases h.2 with ⟨rfl, _⟩ | ⟨g, cap, cur, rfl, _, h4, _⟩
  · cases hj
  · simp [Value.ownBlock] at hj; subst hj; rw [h4] at ho; cases ho; rfl
theorem KpS.of_grow {S : Nat → Prop} {X Y : World} {row : Option Nat} (hg : X.grownBy Y row) (h : ∀ r, row = some r → S r) : KpS S X Y :=
  ⟨hg.size, fun k o hs hk _ => (hg.block k (Array.getElem?_eq_some_iff.1 hk).1 (fun e => hs (h k e.symm))).trans hk⟩
theorem piece_row {W : World} {b o : Nat} {rows : List S71} (h : RowC W (some ⟨b, o, none⟩) (rcells rows)) (i N : Nat) : RowC W (some ⟨b, o + i * 3, none⟩) (rcells ((rows.drop i).take N)) := fun hp => by
  have hlen : 0 < (rcells rows).length := by
    rw [rcells_len] at hp ⊢
    rw [List.length_take, List.length_drop] at hp
    omega
  obtain ⟨b', o', e, hc⟩ := h hlen
  injection e with e; injection e with e1 e2
  subst e1; subst e2
  refine ⟨b, o + i * 3, rfl, fun j u hu => ?_⟩
  have hd : rcells rows = rcells (rows.take i) ++ (rcells ((rows.drop i).take N) ++ rcells ((rows.drop i).drop N)) := by
    unfold rcells
    rw [← List.flatMap_append, ← List.flatMap_append, List.take_append_drop, List.take_append_drop]
  have hil : i ≤ rows.length := by
    rw [rcells_len, List.length_take, List.length_drop] at hp
    omega
  have hl : (rcells (rows.take i)).length = i * 3 := by rw [rcells_len, List.length_take, Nat.min_eq_left hil]
  have hj := (List.getElem?_eq_some_iff.1 hu).1
  have := hc (i * 3 + j) u (by
    rw [hd, ← hl, List.getElem?_append_right (Nat.le_add_right _ _), Nat.add_sub_cancel_left, List.getElem?_append_left hj]
    exact hu)
  rwa [← Nat.add_assoc] at this
structure SI (w : World) (A1 : Option Addr) (c1 : Nat) (ls : List S112) (A2 : Option Addr) (c2 : Nat) (rows : List S71) (B5 B : Nat) (v : Value) (rs : List RK) (is : List Nat) (N : Nat) (W : World) : Prop where
  ch : Blk W w.heap.size #[.slice A1 ls.length c1, .slice A2 rows.length c2] 53
  out : Blk W B5 #[v] 65
  own : ChksO 53 71 (B + 2) v rs W
  val : rs.map RK.x = cutOf ls rows N is
  low : Below w.heap.size w W
theorem SI.grow {w : World} {A1 : Option Addr} {c1 : Nat} {ls : List S112} {A2 : Option Addr} {c2 : Nat} {rows : List S71} {B5 B : Nat} {v : Value} {rs : List RK} {is : List Nat} {N : Nat} {W W' : World} {row : Option Nat} (h : SI w A1 c1 ls A2 c2 rows B5 B v rs is N W) (hw : w.heap.size < B) (h5 : B5 < B) (hg : W.grownBy W' row) (hr : ∀ r, row = some r → B ≤ r ∧ r ≤ B + 1) : SI w A1 c1 ls A2 c2 rows B5 B v rs is N W' :=
  ⟨Blk.grown h.ch hg (fun e => by have := hr _ e; omega), Blk.grown h.out hg (fun e => by have := hr _ e; omega), h.own.grow hg (fun r e => by have := hr r e; omega), h.val, h.low.grown hg h.low.size (fun k e => by have := hr k e; omega)⟩

set_option maxRecDepth 100000 in
set_option maxHeartbeats 4000000 in
theorem csplit_any (A1 : Option Addr) (c1 : Nat) (ls : List S112) (A2 : Option Addr) (c2 : Nat) (rows : List S71) (most : Int) (w : World) (hT : Tabs w) (hls : ls.length < 4398046511104) (hm : rows.length < 4611686018427387904)
    (hL : Kd.C k112 w A1 ls.length ls) (hR : RowC w A2 (rcells rows)) (h2 : rows.length ≤ c2) (hwf : ∀ x ∈ rows, (Lit.int .i64 x.f0).wf = true) :
    Calls Tryd.prog 43 #[chV A1 ls.length c1 A2 rows.length c2, .int .i64 most] w (SplP 53 71 w (splitC ls rows most)) := by
  have hb0 : Below w.heap.size w (w.alloc (.cells #[.slice A1 ls.length c1, .slice A2 rows.length c2] 53)) := (Below.refl _ _).alloc (Nat.le_refl _) _
  have HC := Lib.hid (cright_any A1 c1 ls A2 c2 rows (w.alloc (.cells #[.slice A1 ls.length c1, .slice A2 rows.length c2] 53)) (hT.below hb0) hls hm (Kd.C_below hL hb0) (hR.below hb0) hwf)
  have k0 : Blk (w.alloc (.cells #[.slice A1 ls.length c1, .slice A2 rows.length c2] 53)) w.heap.size #[.slice A1 ls.length c1, .slice A2 rows.length c2] 53 := Blk.new _ _ _ _ rfl
  have HR := Lib.hid hR
  have HL := Lib.hid hL
  clear hT hL hR hwf
  cases hr : rightC ls rows
  · rw [hr] at HC
    have HF : Hid (splitC ls rows most = []) := by show _ = _; unfold splitC; rw [hr]; rfl
    clear hr
    go_enter Tryd.func43, Tryd.ntmps43
    go_wp2_with (go_at_call 57; refine (HC.out).mono ?_; rintro e w1 ⟨rfl, hb⟩)
    go_ret
    exact ⟨none, 0, [], rfl, HF.out.symm, ChksO.nil _ _ _ _, below_step hb0 hb⟩
  rw [hr] at HC
  by_cases h1m : most < 1
  · have d1 : decide (most < 1) = true := decide_eq_true h1m
    have HF : Hid (splitC ls rows most = []) := by show _ = _; unfold splitC; rw [if_neg (fun h => by omega)]
    clear hr
    go_enter Tryd.func43, Tryd.ntmps43
    go_wp2_with (go_at_call 57; refine (HC.out).mono ?_; rintro e w1 ⟨rfl, hb⟩)
    go_ret
    exact ⟨none, 0, [], rfl, HF.out.symm, ChksO.nil _ _ _ _, below_step hb0 hb⟩
  have d1 : decide (most < 1) = false := decide_eq_false h1m
  obtain ⟨h0, h1⟩ := rightC_pos hr
  obtain ⟨N, hN⟩ : ∃ N, N = min most.toNat 1000 := ⟨_, rfl⟩
  have hN1 : 1 ≤ N := by omega
  have hN2 : N ≤ 1000 := by omega
  have hmin : min most 1000 = (N : Int) := by omega
  have HF : Hid (splitC ls rows most = cutOf ls rows N (starts rows.length N)) := by show _ = _; unfold splitC; rw [if_pos ⟨hr, by omega⟩, hN]
  clear hr hN
  obtain ⟨b, o, rfl, hcR⟩ := HR.out (by rw [rcells_len]; omega)
  clear hcR
  refine (callsIn_wide (n := 3)).1 ?_
  refine callsIn_of_wp_marks Tryd.func43 rfl trivial ?_ rfl
  simp only [Tryd.ntmps43, List.size_toArray, List.length_cons, List.length_nil, Nat.reduceAdd, Nat.reduceSub, Array.replicate_succ, Array.replicate_zero, List.push_toArray, List.append_toArray, List.nil_append, List.cons_append]
  gi_wp2_with (first
    | (refine ⟨trivial, ?_⟩; gi_at_call 57; refine (callsIn_wide.2 HC.out).mono ?_; rintro e w1 ⟨rfl, hb⟩; have HB1 := Lib.hid (below_step hb0 hb); have k1 := Blk.grown k0 (grown_below hb) (fun e => by cases e); have c11 := (k1.alloc (.cells #[.slice none 0 0] 65)).cell 1 _ rfl; clear hb)
    | (refine ⟨trivial, ?_⟩; gi_at_call 103; refine (callsIn_wide.2 (chunkit_any _ _ _ N _ hN1)).mono ?_; rintro e w' ⟨rfl, rfl⟩))
  have hlt1 : w.heap.size < w1.heap.size := k1.lt
  obtain ⟨W0, hW0⟩ : ∃ W0, W0 = ((w1.alloc (.cells #[.slice none 0 0] 65)).alloc (.cells #[.slice (some ⟨b, o, none⟩) rows.length c2] 51)).alloc (.cells #[.int .i64 (N : Int)] 3) := ⟨_, rfl⟩
  have hs1 : (w1.alloc (.cells #[.slice none 0 0] 65)).heap.size = w1.heap.size + 1 := by simp
  have hs2 : ((w1.alloc (.cells #[.slice none 0 0] 65)).alloc (.cells #[.slice (some ⟨b, o, none⟩) rows.length c2] 51)).heap.size = w1.heap.size + 1 + 1 := by simp
  have hsz : W0.heap.size = w1.heap.size + 3 := by rw [hW0]; simp
  have hbn : W0.cell? ⟨w1.heap.size + 1, 0, none⟩ = some (.slice (some ⟨b, o, none⟩) rows.length c2) := by
    rw [hW0]; exact ((Blk.new _ _ _ _ hs1.symm).alloc _).cell 0 _ rfl
  have hbm : W0.cell? ⟨w1.heap.size + 1 + 1, 0, none⟩ = some (.int .i64 (N : Int)) := by
    rw [hW0]; exact (Blk.new _ _ _ _ hs2.symm).cell 0 _ rfl
  have hsi : SI w A1 c1 ls (some ⟨b, o, none⟩) c2 rows w1.heap.size W0.heap.size (.slice none 0 0) [] [] N W0 := by
    refine ⟨?_, ?_, ChksO.nil _ _ _ _, rfl, ?_⟩
    · rw [hW0]; exact ((k1.alloc _).alloc _).alloc _
    · rw [hW0]; exact ((Blk.new _ _ _ _ rfl).alloc _).alloc _
    · rw [hW0]; exact ((HB1.out.alloc HB1.out.size _).alloc (by rw [hs1]; have := HB1.out.size; omega) _).alloc (by rw [hs2]; have := HB1.out.size; omega) _
  rw [← hW0]
  clear hs1 hs2
  refine wpIn_range0 rfl (by decide) (gf := 148) (lb := #[.pointer (some ⟨w1.heap.size + 1, 0, none⟩), .pointer (some ⟨w1.heap.size + 1 + 1, 0, none⟩)]) rfl trivial (enters_of Tryd.func148 (by kernel_rfl) rfl)
    (chunk_seq (fun k => k ≠ w1.heap.size + 1 ∧ k ≠ w1.heap.size + 1 + 1) (w1.heap.size + 1) (w1.heap.size + 1 + 1) b o c2 rows.length N 2 (by decide) W0 (fun h => h.1 rfl) (fun h => h.2 rfl) hbn hbm h2 hN1 hN2 hm)
    KpS.trans (fun W l o o' _ h ho => KpS.putObj W l o o' h ho) (Below.refl _ _) (fun _ => rfl)
    (fun pre W => ∃ v rs, SI w A1 c1 ls (some ⟨b, o, none⟩) c2 rows w1.heap.size W0.heap.size v rs pre N W) (fun _ _ _ => False)
    (fun s X Y row ⟨v, rs, hs⟩ hg hr => ⟨v, rs, hs.grow (by omega) (by omega) hg hr⟩)
    (fun c s X Y row hs hg hr => hs.elim)
    ⟨_, _, hsi⟩ (fun x a' W => ∃ (u3 u4 u7 u8 u9 u10 u11 u12 u13 u14 u15 u16 u17 u18 u19 u20 u21 u22 u23 u24 u25 u26 u27 u28 u29 : Value), a' = ⟨#[chV A1 ls.length c1 (some ⟨b, o, none⟩) rows.length c2, .int .i64 most, .pointer (some ⟨w.heap.size, 0, none⟩), u3, u4, .pointer (some ⟨w1.heap.size, 0, none⟩), pieceV b o rows.length N x, u7, u8, u9, u10, u11, u12, u13, u14, u15, u16, u17, u18, u19, u20, u21, u22, u23, u24, u25, u26, u27, u28, u29], []⟩) ?hAx ?assign ?body ?done ?stop
  case hAx =>
    intro x a' W l o o' h _ _ _
    exact h
  case assign =>
    rintro l pre x W K hI hle hK
    gi_wp2
    exact hK _ _ (KeepsFrom.refl _ _) (KpS.refl _ _) hI ⟨_, _, _, _, _, _, _, _, _, _, _, _, _, _, _, _, _, _, _, _, _, _, _, _, _, rfl⟩
  case body =>
    rintro l pre x a' W hle ⟨v, rs, hsi⟩ ⟨u3, u4, u7, u8, u9, u10, u11, u12, u13, u14, u15, u16, u17, u18, u19, u20, u21, u22, u23, u24, u25, u26, u27, u28, u29, rfl⟩ hpre
    refine wpIn_block ?_
    have hpl : ((rows.drop x).take N).length = min N (rows.length - x) := by rw [List.length_take, List.length_drop]
    have hrl : rs.length ≤ 1000 := by
      have e := congrArg List.length hsi.val
      unfold cutOf at e
      rw [List.length_map, List.length_map] at e
      have e2 := ((List.prefix_append pre [x]).trans hpre).length_le
      rw [starts_len] at e2
      have e3 : cutN rows.length N ≤ rows.length := by
        rcases Nat.lt_or_ge rows.length (cutN rows.length N) with h | h
        · have := (cutN_lt hN1).1 h
          have h4 : rows.length * 1 ≤ rows.length * N := Nat.mul_le_mul_left _ hN1
          omega
        · exact h
      omega
    refine split_round l _ _ _ w.heap.size w1.heap.size (W0.heap.size + 2) A1 c1 ls (.slice (some ⟨b, o, none⟩) rows.length c2) v rs ⟨b, o + x * 3, none⟩ (min N (rows.length - x)) ((rows.drop x).take N) W hsi.ch hsi.out hsi.own hle (by omega) (by omega)
      (Kd.C_below HL.out hsi.low) hls (piece_row (HR.out.below hsi.low) x N) (by omega) hrl _ (fun c a w h => h) u3 u4 u7 u8 u9 u10 u11 u12 u13 u14 u15 u16 u17 u18 u19 u20 u21 u22 u23 u24 u25 u26 u27 u28 u29 _ (by rw [hpl]) ?_
    intro a' v' r W3 W4 hb hg ho hO hr
    have hvb : ∀ k, v.ownBlock = some k → W0.heap.size + 2 ≤ k := fun k e => own_ge hsi.own.own e
    have hlow := (below_step hsi.low hb).grown hg (Nat.le_trans hsi.low.size hb.size) (fun k e => by have := hvb k e; omega)
    have hchx := Blk.grown (Blk.below hsi.ch hb hsi.ch.lt) hg (fun e => by have := hvb _ e; omega)
    have hne : ∀ {e k n : Nat} {u : Value} {xs : List Value}, W4.ownsRow (W0.heap.size + 2) e k u n xs → u.ownBlock ≠ some w1.heap.size := fun h e => by have := own_ge h e; omega
    refine ⟨(KeepsFrom.of_below hb).trans (((KeepsOthers.of_grownBy hg (fun j ob e h => own_cells (hsi.own.below hb).own j ob e h)).from _).trans ((KeepsOthers.setCell _ _ _).from _)),
      (KpS.of_below hb).trans ((KpS.of_grow hg (fun k e => by have := hvb k e; exact ⟨by omega, by omega⟩)).trans (KpS.set (show w1.heap.size ≠ w1.heap.size + 1 ∧ w1.heap.size ≠ w1.heap.size + 1 + 1 from ⟨by omega, by omega⟩))), v', rs ++ [r], ?_⟩
    refine ⟨hchx.far _ _ (by show w.heap.size ≠ w1.heap.size; omega), ?_, ⟨own_setOther hO.own (hne hO.own), fun q hq => ⟨(hO.labs q hq).1, own_setOther (hO.labs q hq).2 (hne (hO.labs q hq).2)⟩, fun q hq => ⟨(hO.rows q hq).1, own_setOther (hO.rows q hq).2 (hne (hO.rows q hq).2)⟩⟩, ?_, hlow.setCell (p := ⟨w1.heap.size, 0, none⟩) (Nat.le_of_lt hlt1) _⟩
    · have := ho.set 0 v'
      simpa using this
    · rw [List.map_append, hsi.val]
      unfold cutOf
      rw [List.map_append, List.map_cons, List.map_nil, List.map_cons, List.map_nil, hr]
  case done =>
    rintro D xs W hD rfl ⟨v, rs, hsi⟩ hK
    have c6 := hsi.out.cell 0 _ rfl
    have HV := Lib.hid (hsi.grow (by omega) (by omega) (grownBy_putObj' W D (.deferred none)) (fun r e => by cases e; omega))
    obtain ⟨A7, q7, rfl, -⟩ := own_slice hsi.own.own
    gi_wp2
    refine ⟨by simp, .inl ⟨_, _, rfl, run_takeDeferred hK, ?_⟩⟩
    refine ⟨_, results_tmp rfl _ _ _, ⟨A7, q7, rs, rfl, by rw [HV.out.val, HF.out], HV.out.own.le (by omega), HV.out.low⟩⟩
  case stop =>
    rintro D c pre W hD hpre hx hK
    exact hx.elim
end Go.Proofs.YtojocffjajcdmaaDoor.RF
/- The reference's Split: walked. -/
namespace Go.Proofs.YtojocffjajcdmaaDoor.RF
open Go Go.RowKit Go.Shelf Go.Sort Go.Proofs.YtojocffjajcdmaaDoor Go.Proofs.YtojocffjajcdmaaDoor.RS Go.Proofs.YtojocffjajcdmaaDoorW.PrintWords Go.Proofs.YtojocffjajcdmaaDoorW.PrintLast Go.Proofs.YtojocffjajcdmaaDoorW.PrintMore PChunkAll
set_option linter.unusedVariables false
set_option linter.unusedSimpArgs false

theorem info50 : (Tryd.prog.info? 50).map (fun i => (i.zero, i.size, i.bytes)) = some (some (.agg #[(.slice none 0 0), (.slice none 0 0)]), 2, 48) := by kernel_rfl
theorem info93 : (Tryd.prog.info? 93).map (fun i => (i.zero, i.size, i.bytes)) = some (some (.agg #[(.int .i64 0), (.int .i64 0), (.string ⟨#[]⟩)]), 3, 32) := by kernel_rfl
def lenOf : Value → Nat
  | .slice _ n _ => n
  | _ => 0
theorem own_kept {X X' : World} {B e k n : Nat} {v : Value} {xs : List Value} {row : Option Nat} (h : X.ownsRow B e k v n xs) (hg : X.grownBy X' row) (hne : v.ownBlock ≠ row ∨ v.ownBlock = none) : X'.ownsRow B e k v n xs := by
  refine ⟨h.1, ?_⟩
  rcases h.2 with h2 | ⟨g, cap, cur, rfl, h3, h4, h5⟩
  · exact .inl h2
  · refine .inr ⟨g, cap, cur, rfl, h3, (hg.block g (Array.getElem?_eq_some_iff.1 h4).1 (fun q => ?_)).trans h4, h5⟩
    rcases hne with h | h
    · exact h q
    · cases h
theorem cut_step {L N j i : Nat} (hi : i = min (j * N) L) (hlt : i < L) (hN : 1 ≤ N) : i + min N (L - i) = min ((j + 1) * N) L ∧ j < cutN L N ∧ i = j * N := by
  have h1 : i = j * N := by omega
  refine ⟨?_, (cutN_lt hN).2 (by omega), h1⟩
  rw [Nat.succ_mul]
  omega
theorem cut_end {L N j i : Nat} (hi : i = min (j * N) L) (hj : j ≤ cutN L N) (hlt : ¬ i < L) (hN : 1 ≤ N) : j = cutN L N := by
  rcases Nat.lt_or_ge j (cutN L N) with h | h
  · have := (cutN_lt hN).1 h; omega
  · omega
def RSpRel (w : World) (A1 : Option Addr) (c1 : Nat) (ls : List S112) (A2 : Option Addr) (c2 : Nat) (rows : List S71) (N j : Nat) (v : Value) (wr : World) : Prop :=
  ∃ rs : List RK, rs.map RK.x = cutOf ls rows N ((starts rows.length N).take j) ∧ ChksO 50 93 (w.heap.size + 1) v rs wr ∧ Blk wr w.heap.size #[.slice A1 ls.length c1, .slice A2 rows.length c2] 50 ∧ Below w.heap.size w wr

set_option maxRecDepth 100000 in
set_option maxHeartbeats 4000000 in
theorem rsplit_any (A1 : Option Addr) (c1 : Nat) (ls : List S112) (A2 : Option Addr) (c2 : Nat) (rows : List S71) (most : Int) (w : World) (hsz : SzOk ls) (hls : ls.length < 4398046511104) (hm : rows.length < 4611686018427387904)
    (hL : Kd.C k112 w A1 ls.length ls) (hA1 : A1 = none → c1 = 0) (hc1 : ls.length ≤ c1) (hR : RowC w A2 (rcells rows)) (hc2 : rows.length ≤ c2) (hwf : ∀ x ∈ rows, (Lit.int .i64 x.f0).wf = true) :
    Calls Tryd.prog 45 #[chV A1 ls.length c1 A2 rows.length c2, .int .i64 most] w (SplP 50 93 w (splitC ls rows most)) := by
  have hb0 : Below w.heap.size w (w.alloc (.cells #[.slice A1 ls.length c1, .slice A2 rows.length c2] 50)) := (Below.refl _ _).alloc (Nat.le_refl _) _
  have HC := Lib.hid (rright58_any A1 c1 ls A2 c2 rows (w.alloc (.cells #[.slice A1 ls.length c1, .slice A2 rows.length c2] 50)) hsz hm (Kd.C_below hL hb0) (hR.below hb0) hwf)
  have k0 : Blk (w.alloc (.cells #[.slice A1 ls.length c1, .slice A2 rows.length c2] 50)) w.heap.size #[.slice A1 ls.length c1, .slice A2 rows.length c2] 50 := Blk.new _ _ _ _ rfl
  have HR := Lib.hid hR
  have HL := Lib.hid (lab_C hL)
  clear hsz hL hR hwf
  cases hr : rightC ls rows
  · rw [hr] at HC
    have HF : Hid (splitC ls rows most = []) := by show _ = _; unfold splitC; rw [hr]; rfl
    clear hr
    go_enter Tryd.func45, Tryd.ntmps45
    go_wp2_with (go_at_call 58; refine (HC.out).mono ?_; rintro e w1 ⟨rfl, hb⟩)
    go_ret
    exact ⟨none, 0, [], rfl, HF.out.symm, ChksO.nil _ _ _ _, below_step hb0 hb⟩
  rw [hr] at HC
  by_cases h1m : most < 1
  · have d1 : decide (most < 1) = true := decide_eq_true h1m
    have HF : Hid (splitC ls rows most = []) := by show _ = _; unfold splitC; rw [if_neg (fun h => by omega)]
    clear hr
    go_enter Tryd.func45, Tryd.ntmps45
    go_wp2_with (go_at_call 58; refine (HC.out).mono ?_; rintro e w1 ⟨rfl, hb⟩)
    go_ret
    exact ⟨none, 0, [], rfl, HF.out.symm, ChksO.nil _ _ _ _, below_step hb0 hb⟩
  have d1 : decide (most < 1) = false := decide_eq_false h1m
  obtain ⟨h0, h1⟩ := rightC_pos hr
  obtain ⟨N, hN⟩ : ∃ N, N = min most.toNat 1000 := ⟨_, rfl⟩
  have hN1 : 1 ≤ N := by omega
  have hN2 : N ≤ 1000 := by omega
  have HMIN : Hid (∀ k : Nat, k ≤ 1000 → min most (k : Int) = ((min N k : Nat) : Int)) := Lib.hid (fun k hk => by omega)
  have HF : Hid (splitC ls rows most = cutOf ls rows N (starts rows.length N)) := by show _ = _; unfold splitC; rw [if_pos ⟨hr, by omega⟩, hN]
  clear hr hN
  obtain ⟨b, o, rfl, hcR⟩ := HR.out (by rw [rcells_len]; omega)
  clear hcR
  go_enter Tryd.func45, Tryd.ntmps45
  go_wp2_with (go_at_call 58; refine (HC.out).mono ?_; rintro e w1 ⟨rfl, hb⟩; have HB1 := Lib.hid (below_step hb0 hb); have k1 := Blk.grown k0 (grown_below hb) (fun e => by cases e); have c11 := k1.cell 1 _ rfl; clear hb)
  have HK1 := Lib.hid k1
  clear k0 k1
  go_loopw [5, 6, 7] (fun v5 v6 v7 wr => ∃ (j i : Nat) (ad : Addr), v6 = .slice (some ad) (rows.length - i) (c2 - i) ∧ Hid (i = min (j * N) rows.length ∧ j ≤ cutN rows.length N) ∧ (i < rows.length → ad = ⟨b, o + i * 3, none⟩) ∧ Hid (RSpRel w A1 c1 ls (some ⟨b, o, none⟩) c2 rows N j v5 wr)) (fun v5 v6 v7 _ => lenOf v6)
  case atStart => exact ⟨0, 0, ⟨b, o, none⟩, rfl, Lib.hid ⟨by simp, Nat.zero_le _⟩, fun _ => by simp, [], rfl, ChksO.nil _ _ _ _, HK1.out, HB1.out⟩
  case round =>
    obtain ⟨j, i, ad, rfl, HJ, had, HI⟩ := hrel
    by_cases hlt : i < rows.length
    · obtain rfl := had hlt
      obtain ⟨rs, hrs, hO, hk, hbw⟩ := HI.out
      obtain ⟨Av, cv, rfl, hcv⟩ := own_slice hO.own
      have hltz : (0 : Int) < ((rows.length - i : Nat) : Int) := by omega
      obtain ⟨m, hm0⟩ : ∃ m, m = min N (rows.length - i) := ⟨_, rfl⟩
      have hmin : min most ((rows.length - i : Nat) : Int) = (m : Int) := by rw [HMIN.out _ (by omega), hm0]
      have hm1 : 1 ≤ m := by omega
      have hm2 : i + m ≤ rows.length := by omega
      have hq1 : ((m : Nat) : Int) ≤ ((c2 - i : Nat) : Int) := by omega
      have hq0 : m ≤ c2 - i := by omega
      have kx := hk.cell 0 _ rfl
      have HM0 := Lib.hid hm0
      clear hm0
      go_wp2_with fail
      have hle : w.heap.size + 1 ≤ wr.heap.size := hk.lt
      have hX1 : Below wr.heap.size wr (wr.drew.alloc (.cells #[] 112)) := (Below.refl _ _).drew.alloc (Nat.le_refl _) _
      have hX2 : Below wr.heap.size wr ((wr.drew.alloc (.cells #[] 112)).alloc (.cells #[] 93)) := hX1.alloc hX1.size _
      have hX4 : Below wr.heap.size wr (wr.drew.alloc (.cells #[] 93)) := (Below.refl _ _).drew.alloc (Nat.le_refl _) _
      have hX3 : Below wr.heap.size wr ((wr.drew.alloc (.cells #[] 93)).alloc (.cells #[] 112)) := hX4.alloc hX4.size _
      have HX := Lib.hid (And.intro hX1 (And.intro hX2 (And.intro hX3 hX4)))
      have hpl : ((rows.drop i).take N).length = m := by rw [List.length_take, List.length_drop, HM0.out]
      have HPR := Lib.hid (fun W (hb : Below wr.heap.size wr W) => (piece_row (HR.out.below hbw) i N).below hb)
      have HLB := Lib.hid (fun W (hb : Below wr.heap.size wr W) => (HL.out.below hbw).below hb)
      have HE := Lib.hid (And.intro hO (And.intro hk hbw))
      have HRS := Lib.hid hrs
      have HJ2 := Lib.hid (And.intro (cut_step HJ.out.1 hlt hN1) HM0.out)
      have HRL : Hid (rs.length ≤ 1000) := Lib.hid (by
        have e := congrArg List.length hrs
        unfold cutOf at e
        rw [List.length_map, List.length_map, List.length_take, starts_len] at e
        have e3 : cutN rows.length N ≤ rows.length := by
          rcases Nat.lt_or_ge rows.length (cutN rows.length N) with h | h
          · have := (cutN_lt hN1).1 h
            have h4 : rows.length * 1 ≤ rows.length * N := Nat.mul_le_mul_left _ hN1
            omega
          · exact h
        omega)
      have HPV : Hid (cutOf ls rows N ((starts rows.length N).take (j + 1)) = cutOf ls rows N ((starts rows.length N).take j) ++ [(ls, (rows.drop i).take N)]) := Lib.hid (by
        have h := cut_step HJ.out.1 hlt hN1
        rw [starts_take h.2.1]
        unfold cutOf
        rw [List.map_append, List.map_cons, List.map_nil, ← h.2.2])
      generalize (rows.drop i).take N = pc at *
      obtain rfl : pc.length = m := hpl
      clear hX1 hX2 hX3 hX4 hO hk hbw hrs
      have HJ3 : Hid (i + pc.length = min ((j + 1) * N) rows.length ∧ j + 1 ≤ cutN rows.length N) := Lib.hid (by have h := HJ2.out; exact ⟨by rw [h.2]; exact h.1.1, h.1.2.1⟩)
      have hq6 : pc.length ≤ rows.length - i := by omega
      obtain ⟨i0, hi0, hz0, hz1, hz2⟩ := info_parts info112
      obtain ⟨i1, hi1, hy0, hy1, hy2⟩ := info_parts info93
      obtain ⟨i2, hi2, hx0, hx1, hx2⟩ := info_parts info50
      go_region_held3 (fun w' => w'.cell? ⟨w.heap.size, 0, none⟩ = some (.slice A1 ls.length c1))
        (first
          | exact kx
          | exact keepc HX.out.1 kx | exact keepc HX.out.2.1 kx | exact keepc HX.out.2.2.1 kx | exact keepc HX.out.2.2.2 kx
          | exact keepc hB8 kx | exact HK8.out.cell 0 _ rfl
          | exact keepc hB7 kx | exact keepc (hB7.alloc hB7.size _) kx
          | exact keepc hB6 kx | exact keepc (hB6.alloc hB6.size _) kx)
        (first
          | (refine step_append_row _ rfl (.tmp 25) (.tmp 27) 31 rfl (w.heap.size + 1) 112 i0 _ 2 32 Tryd.underlying31 hi0 hz0 hz1 hz2 rfl (by decide) _ 0 [] rfl
              (by first | exact own_madeE hle rfl | exact own_below (own_madeE (W := wr.drew) (n := wr.heap.size) hle rfl) ((Below.refl _ _).alloc (Nat.le_refl _) (.cells #[] 93)) | exact own_madeE (by simp only [World.size_alloc, World.size_drew]; omega) (by simp only [World.size_alloc, World.size_drew]))
              _ _ _ (lcells ls) rfl hA1 hc1 (lcells_len _)
              (by first | exact HLB.out _ HX.out.1 | exact HLB.out _ HX.out.2.1 | exact HLB.out _ HX.out.2.2.1)
              (lcells_one _) (by unfold maxLen; omega) (by omega) (by simp only [World.size_alloc, World.size_drew]; omega) ?_
             intro v6 w6 hown6 hgrow6
             have hB6 : Below wr.heap.size wr w6 := by
               first
                 | exact HX.out.1.grown hgrow6 HX.out.1.size (by intro q hq; simp [Value.ownBlock, Act.eval, Act.put] at hq; omega)
                 | exact HX.out.2.1.grown hgrow6 HX.out.2.1.size (by intro q hq; simp [Value.ownBlock, Act.eval, Act.put] at hq; omega)
                 | exact HX.out.2.2.1.grown hgrow6 HX.out.2.2.1.size (by intro q hq; simp [Value.ownBlock, Act.eval, Act.put] at hq; omega)
             rw [Nat.zero_add, List.nil_append] at hown6
             obtain ⟨A3, q3, rfl, hq3⟩ := own_slice hown6)
          | (refine step_append_row _ rfl (.tmp 29) (.tmp 32) 48 rfl (w.heap.size + 1) 93 i1 _ 3 32 Tryd.underlying48 hi1 hy0 hy1 hy2 rfl (by decide) _ 0 [] rfl
              (by
                first
                  | exact own_madeE (Nat.le_trans hle hB6.size) rfl
                  | exact own_kept (own_madeE (W := wr.drew.alloc (.cells #[] 112)) (B := w.heap.size + 1) (n := wr.heap.size + 1) (e := 93) (size := 3) (by simp only [World.size_alloc, World.size_drew]; omega) (by simp only [World.size_alloc, World.size_drew])) hgrow6 (.inl (by intro q; simp [Value.ownBlock, Act.eval, Act.put] at q))
                  | exact own_kept (own_below (own_madeE (W := wr.drew) (B := w.heap.size + 1) (n := wr.heap.size) (e := 93) (size := 3) hle rfl) ((Below.refl _ _).alloc (Nat.le_refl _) (.cells #[] 112))) hgrow6 (.inl (by intro q; simp [Value.ownBlock, Act.eval, Act.put] at q)))
              _ _ _ (rcells pc) rfl (by intro e; cases e) (by omega) (rcells_len pc)
              (by first | exact HPR.out _ hB6 | exact HPR.out _ (hB6.alloc hB6.size _))
              (rcells_one _) (by unfold maxLen; omega) (by omega) (by (try simp only [World.size_alloc, World.size_drew]); have := hB6.size; omega) ?_
             intro v7 w7 hown7 hgrow7
             have hB7 : Below wr.heap.size wr w7 := by
               first
                 | exact hB6.grown hgrow7 hB6.size (by intro q hq; simp [Value.ownBlock, Act.eval, Act.put] at hq; omega)
                 | exact (hB6.alloc hB6.size _).grown hgrow7 (hB6.alloc hB6.size _).size (by intro q hq; simp [Value.ownBlock, Act.eval, Act.put] at hq; have := hB6.size; omega)
             have hL7 : w7.ownsRow (w.heap.size + 1) 112 2 (.slice A3 ls.length q3) ls.length (lcells ls) := by
               first
                 | exact own_kept (own_below hown6 ((Below.refl _ _).alloc (Nat.le_refl _) (.cells #[] 93))) hgrow7 (.inl (own_ne_blk (own_below hown6 ((Below.refl _ _).alloc (Nat.le_refl _) (.cells #[] 93))) (Blk.new w6 #[] 93 w6.heap.size rfl) (by decide)))
                 | exact own_kept hown6 hgrow7 (.inl (own_ne_blk hown6 (Blk.grown (Blk.new (wr.drew.alloc (.cells #[] 112)) #[] 93 (wr.heap.size + 1) (by simp only [World.size_alloc, World.size_drew])) hgrow6 (by intro q; simp [Value.ownBlock, Act.eval, Act.put] at q)) (by decide)))
                 | exact own_kept hown6 hgrow7 (.inl (own_ne_blk hown6 (Blk.grown ((Blk.new wr.drew #[] 93 wr.heap.size rfl).alloc (.cells #[] 112)) hgrow6 (by intro q; simp [Value.ownBlock, Act.eval, Act.put] at q)) (by decide)))
             rw [Nat.zero_add, List.nil_append] at hown7
             obtain ⟨A4, q4, rfl, hq4⟩ := own_slice hown7)
          | (refine step_append_row _ rfl (.tmp 24) (.tmp 35) 68 rfl (w.heap.size + 1) 50 i2 _ 2 48 Tryd.underlying68 hi2 hx0 hx1 hx2 rfl (by decide) _ rs.length (rs.flatMap RK.cells) rfl (HE.out.1.below (hB7.alloc hB7.size (.cells #[.slice A3 ls.length q3, .slice A4 pc.length q4] 50))).own
              _ 1 1 (RK.cells ⟨A3, q3, ls, A4, q4, pc⟩) rfl (by intro e; cases e) (Nat.le_refl _) rfl
              (rowCells_new (cs := #[.slice A3 ls.length q3, .slice A4 pc.length q4]) rfl) (RK.cells_one _) (by have := HRL.out; unfold maxLen; omega) (by have := HRL.out; omega) (by simp only [World.size_alloc]; have := hB7.size; omega) ?_
             intro v8 w8 hown8 hgrow8
             have hO7 := HE.out.1.below (hB7.alloc hB7.size (.cells #[.slice A3 ls.length q3, .slice A4 pc.length q4] 50))
             have HG8 : Hid ((w7.alloc (.cells #[.slice A3 ls.length q3, .slice A4 pc.length q4] 50)).grownBy w8 (Value.slice Av rs.length cv).ownBlock) := hgrow8
             have HO8 := Lib.hid (hO7.snoc (r := ⟨A3, q3, ls, A4, q4, pc⟩) (by decide) (by decide) hown8 HG8.out ⟨hq3, own_below hL7 ((Below.refl _ _).alloc (Nat.le_refl _) _)⟩ ⟨hq4, own_below hown7 ((Below.refl _ _).alloc (Nat.le_refl _) _)⟩)
             have HK8 := Lib.hid (Blk.grown ((Blk.below HE.out.2.1 hB7 HE.out.2.1.lt).alloc (.cells #[.slice A3 ls.length q3, .slice A4 pc.length q4] 50)) HG8.out (fun e => by have := own_ge hO7.own e; omega))
             have HB8 := Lib.hid (((below_step HE.out.2.2 hB7).alloc (Nat.le_trans (Nat.le_of_lt hle) hB7.size) (.cells #[.slice A3 ls.length q3, .slice A4 pc.length q4] 50)).grown HG8.out (by simp only [World.size_alloc]; have := hB7.size; omega) (fun k e => by have := own_ge hO7.own e; omega))
             clear hown8 hgrow8 hO7 hown7 hgrow7 hL7 hown6 hgrow6))
      all_goals
        by_cases hzc : c2 - i = pc.length
        · go_wp2_with fail
          go_roundw
          case rel =>
            refine ⟨j + 1, i + pc.length, ⟨b, o + i * 3, none⟩, by rw [show c2 - (i + pc.length) = 0 by omega, ← Nat.sub_sub], HJ3, fun h => absurd h (by omega), rs ++ [⟨A3, q3, ls, A4, q4, pc⟩], ?_, HO8.out, HK8.out, HB8.out⟩
            rw [HPV.out, List.map_append, HRS.out]; rfl
          case measure => simp [lenOf]; omega
        · go_wp2_with fail
          go_roundw
          case rel =>
            refine ⟨j + 1, i + pc.length, _, by first | rfl | (rw [← Nat.sub_sub, ← Nat.sub_sub]) | (simp only [Nat.sub_sub]), HJ3, fun h => (by congr 1; omega), rs ++ [⟨A3, q3, ls, A4, q4, pc⟩], ?_, HO8.out, HK8.out, HB8.out⟩
            rw [HPV.out, List.map_append, HRS.out]; rfl
          case measure => simp [lenOf]; omega
    · obtain ⟨rs, hrs, hO, hk, hbw⟩ := HI.out
      obtain rfl := cut_end HJ.out.1 HJ.out.2 hlt hN1
      rw [List.take_of_length_le (by rw [starts_len]; exact Nat.le_refl _)] at hrs
      obtain ⟨Av, cv, rfl, hcv⟩ := own_slice hO.own
      have hz0 : rows.length - i = 0 := by omega
      have hltz : ¬ (0 : Int) < ((rows.length - i : Nat) : Int) := by omega
      have HE := Lib.hid (And.intro hO hbw)
      have HRS := Lib.hid hrs
      clear hO hbw hk hrs
      go_wp2_with fail
      go_ret
      exact ⟨Av, cv, rs, rfl, by rw [HRS.out, HF.out], HE.out.1.le (Nat.le_succ _), HE.out.2⟩
end Go.Proofs.YtojocffjajcdmaaDoor.RF
/- law04.Sames of equal chunks. -/
namespace Go.Proofs.YtojocffjajcdmaaDoor.RF
open Go Go.RowKit Go.Shelf Go.Sort Go.Proofs.YtojocffjajcdmaaDoor Go.Proofs.YtojocffjajcdmaaDoor.RS Go.Proofs.YtojocffjajcdmaaDoorW.PrintWords Go.Proofs.YtojocffjajcdmaaDoorW.PrintLast Go.Proofs.YtojocffjajcdmaaDoorW.PrintMore PChunkAll
set_option linter.unusedVariables false
set_option linter.unusedSimpArgs false

theorem ChksR.at {A : Option Addr} {n : Nat} {rs : List RK} {W : World} (h : ChksR A n rs W) {i : Nat} (hi : i < rs.length) :
    ∃ b o, A = some ⟨b, o, none⟩ ∧ W.cell? ⟨b, o + i * 2, none⟩ = some (.slice rs[i].A1 rs[i].ls.length rs[i].c1) ∧ W.cell? ⟨b, o + i * 2 + 1, none⟩ = some (.slice rs[i].A2 rs[i].rows.length rs[i].c2) := by
  obtain ⟨b, o, e, hc⟩ := h.row (by rw [flat_len _ 2 RK.cells_len]; omega)
  refine ⟨b, o, e, ?_, ?_⟩
  · have := hc (i * 2 + 0) _ ((flat_get RK.cells 2 RK.cells_len rs i 0 hi (by decide)).trans rfl)
    rwa [Nat.add_zero] at this
  · have := hc (i * 2 + 1) _ ((flat_get RK.cells 2 RK.cells_len rs i 1 hi (by decide)).trans rfl)
    rwa [← Nat.add_assoc] at this
set_option maxRecDepth 100000 in
set_option maxHeartbeats 4000000 in
theorem sames44_any (A B : Option Addr) (n c d : Nat) (rs ss : List RK) (w : World) (hA : ChksR A n rs w) (hB : ChksR B n ss w) (he : rs.map RK.x = ss.map RK.x) (hn : n ≤ 4611686018427387904)
    (hs : ∀ r ∈ rs, r.ls.length < 4398046511104 ∧ r.rows.length < 4398046511104) : Calls Tryd.prog 44 #[.slice A n c, .slice B n d] w (BoolBelow true w) := by
  have hln : rs.length = n := hA.len.symm
  have hln2 : ss.length = n := hB.len.symm
  have HA := Lib.hid hA
  have HB := Lib.hid hB
  have HEQ : Hid (∀ i (h1 : i < rs.length) (h2 : i < ss.length), rs[i].ls = ss[i].ls ∧ rs[i].rows = ss[i].rows) := Lib.hid (fun i h1 h2 => by
    have e : (rs.map RK.x)[i]? = (ss.map RK.x)[i]? := by rw [he]
    rw [List.getElem?_map, List.getElem?_map, List.getElem?_eq_getElem h1, List.getElem?_eq_getElem h2] at e
    injection e with e
    exact ⟨(Prod.mk.inj e).1, (Prod.mk.inj e).2⟩)
  have HS := Lib.hid hs
  clear hA hB he hs
  go_enter Tryd.func44, Tryd.ntmps44
  go_wp2_with fail
  go_loopw [5] (fun v5 wr => ∃ i : Nat, v5 = .int .i64 (i : Int) ∧ i ≤ n ∧ Hid (Below w.heap.size w wr)) (fun v5 _ => n - (intOf v5).toNat)
  case atStart => exact ⟨0, rfl, Nat.zero_le _, Below.refl _ _⟩
  case round =>
    obtain ⟨i, rfl, hi, HI⟩ := hrel
    by_cases hlt : i < n
    · have hltz : (i : Int) < (n : Int) := by omega
      have h1 : i < rs.length := by omega
      have h2 : i < ss.length := by omega
      have ra := HA.out.below HI.out
      have rb := HB.out.below HI.out
      obtain ⟨b, o, rfl, p0, p1⟩ := ra.at h1
      obtain ⟨b', o', rfl, q0, q1⟩ := rb.at h2
      obtain ⟨e1, e2⟩ := HEQ.out i h1 h2
      have g1 := ra.labs _ (List.getElem_mem h1)
      have g2 := ra.rows _ (List.getElem_mem h1)
      have g3 := rb.labs _ (List.getElem_mem h2)
      have g4 := rb.rows _ (List.getElem_mem h2)
      have g5 := HS.out _ (List.getElem_mem h1)
      rw [← e1] at g3 q0
      rw [← e2] at g4 q1
      have HC := Lib.hid (fun W (hb : Below wr.heap.size wr W) => same41_any rs[i].A1 rs[i].c1 rs[i].A2 rs[i].c2 ss[i].A1 ss[i].c1 ss[i].A2 ss[i].c2 rs[i].ls rs[i].rows W g5.1 g5.2 (Kd.C_below g1.2 hb) g1.1 (g2.2.below hb) g2.1 (Kd.C_below g3.2 hb) g3.1 (g4.2.below hb) g4.1)
      clear ra rb e1 e2 g1 g2 g3 g4 g5
      generalize rs[i].A1 = a1 at *
      generalize rs[i].c1 = a2 at *
      generalize rs[i].A2 = a3 at *
      generalize rs[i].c2 = a4 at *
      generalize ss[i].A1 = a5 at *
      generalize ss[i].c1 = a6 at *
      generalize ss[i].A2 = a7 at *
      generalize ss[i].c2 = a8 at *
      generalize rs[i].ls = ls at *
      generalize rs[i].rows = rows at *
      have HSS : ∀ w', Below wr.heap.size wr w' → (w'.cell? ⟨b, o + i * 2, none⟩ = some (.slice a1 ls.length a2) ∧ w'.cell? ⟨b, o + i * 2 + 1, none⟩ = some (.slice a3 rows.length a4) ∧ w'.cell? ⟨b', o' + i * 2, none⟩ = some (.slice a5 ls.length a6) ∧ w'.cell? ⟨b', o' + i * 2 + 1, none⟩ = some (.slice a7 rows.length a8)) :=
        fun w' hK => ⟨keepc hK p0, keepc hK p1, keepc hK q0, keepc hK q1⟩
      go_wp2_with fail
      go_region_held3 (fun w' => w'.cell? ⟨b, o + i * 2, none⟩ = some (.slice a1 ls.length a2) ∧ w'.cell? ⟨b, o + i * 2 + 1, none⟩ = some (.slice a3 rows.length a4) ∧ w'.cell? ⟨b', o' + i * 2, none⟩ = some (.slice a5 ls.length a6) ∧ w'.cell? ⟨b', o' + i * 2 + 1, none⟩ = some (.slice a7 rows.length a8))
        (first | exact HSS _ (Below.refl _ _) | exact HSS _ (Below.refl _ _).drew | exact HSS _ hb2 | exact HSS _ hb2.drew)
        (first | (go_at_call 41; refine (HC.out _ (by first | exact (Below.refl _ _).drew | exact Below.refl _ _)).mono ?_; rintro e w2 ⟨rfl, hb3⟩; have hb2 : Below wr.heap.size wr w2 := (by first | exact hb3 | exact undrew hb3); have HB2 := Lib.hid (below_step HI.out hb2)))
      all_goals
        go_wp2_with fail
        go_roundw
        case rel => exact ⟨i + 1, by go_num, by omega, HB2⟩
        case measure => simp [intOf]; omega
    · have hltz : ¬ (i : Int) < (n : Int) := by omega
      go_wp2_with fail
      go_ret
      exact ⟨rfl, HI.out⟩
end Go.Proofs.YtojocffjajcdmaaDoor.RF
/- The law ChunkSplits holds of whatever chunk and number. -/
namespace Go.Proofs.YtojocffjajcdmaaDoor.RF
open Go Go.RowKit Go.Shelf Go.Sort Go.Proofs.YtojocffjajcdmaaDoor Go.Proofs.YtojocffjajcdmaaDoor.RS Go.Proofs.YtojocffjajcdmaaDoorW.PrintWords Go.Proofs.YtojocffjajcdmaaDoorW.PrintLast Go.Proofs.YtojocffjajcdmaaDoorW.PrintMore PChunkAll
set_option linter.unusedVariables false
set_option linter.unusedSimpArgs false

theorem len_of {rs : List RK} {l : List (List S112 × List S71)} (h : rs.map RK.x = l) : rs.length = l.length := by rw [← h, List.length_map]
theorem splitC_mem {ls : List S112} {rows : List S71} {most : Int} {rs : List RK} (h : rs.map RK.x = splitC ls rows most) : ∀ r ∈ rs, r.ls = ls ∧ r.rows.length ≤ rows.length := by
  intro r hr
  have hm : r.x ∈ splitC ls rows most := by rw [← h]; exact List.mem_map_of_mem hr
  unfold splitC at hm
  split at hm
  · obtain ⟨i, _, e⟩ := List.mem_map.1 hm
    have e1 := (Prod.mk.inj e).1
    have e2 := (Prod.mk.inj e).2
    refine ⟨e1.symm, ?_⟩
    rw [← e2, List.length_take, List.length_drop]
    omega
  · cases hm
theorem splitC_len (ls : List S112) (rows : List S71) (most : Int) : (splitC ls rows most).length ≤ rows.length := by
  unfold splitC
  split
  · rename_i h
    unfold cutOf
    rw [List.length_map, starts_len]
    rcases Nat.lt_or_ge rows.length (cutN rows.length (min most.toNat 1000)) with h1 | h1
    · have hN1 : 1 ≤ min most.toNat 1000 := by omega
      have := (cutN_lt hN1).1 h1
      have h4 : rows.length * 1 ≤ rows.length * (min most.toNat 1000) := Nat.mul_le_mul_left _ hN1
      omega
    · exact h1
  · exact Nat.zero_le _
abbrev SpoK (B : Nat) (v : Value) (rs : List RK) (w0 W : World) : Prop := SpoI 53 2 71 3 RK.cells (fun r => r.A2) (fun r => r.rows.length) (fun r => r.c2) B v rs w0 W

set_option maxRecDepth 100000 in
set_option maxHeartbeats 4000000 in
theorem splits_any (A1 : Option Addr) (c1 : Nat) (ls : List S112) (A2 : Option Addr) (c2 : Nat) (rows : List S71) (most : Int) (w : World) (hT : Tabs w) (hls : ls.length < 4398046511104) (hm : rows.length < 4398046511104) (hsz : SzOk ls)
    (hL : Kd.C k112 w A1 ls.length ls) (hA1 : A1 = none → c1 = 0) (h1 : ls.length ≤ c1) (hR : RowC w A2 (rcells rows)) (h2 : rows.length ≤ c2) (hwf : ∀ x ∈ rows, (Lit.int .i64 x.f0).wf = true) :
    Calls Tryd.prog 7 #[chV A1 ls.length c1 A2 rows.length c2, .int .i64 most] w (LawRes w) := by
  have hb0 : Below w.heap.size w (w.alloc (.cells #[.slice A1 ls.length c1, .slice A2 rows.length c2] 50)) := (Below.refl _ _).alloc (Nat.le_refl _) _
  have k0 : Blk (w.alloc (.cells #[.slice A1 ls.length c1, .slice A2 rows.length c2] 50)) w.heap.size #[.slice A1 ls.length c1, .slice A2 rows.length c2] 50 := Blk.new _ _ _ _ rfl
  have c00 := k0.cell 0 _ rfl
  have c01 := k0.cell 1 _ rfl
  have HKN := Lib.hid (fun W (hb : Below w.heap.size w W) => knows4_any W (hT.below hb))
  have HOW := Lib.hid (own34_any A1 c1 ls A2 c2 rows _ hls hm (Kd.C_below hL hb0) h1 (hR.below hb0) h2)
  have HCS := Lib.hid (fun (A3 : Option Addr) c3 (A4 : Option Addr) c4 W (hb : Below w.heap.size w W) (g1 : Kd.C k112 W A3 ls.length ls) (g2 : RowC W A4 (rcells rows)) (g3 : rows.length ≤ c4) => csplit_any A3 c3 ls A4 c4 rows most W (hT.below hb) hls (by omega) g1 g2 g3 hwf)
  have HRS := Lib.hid (fun W (hb : Below w.heap.size w W) => rsplit_any A1 c1 ls A2 c2 rows most W hsz hls (by omega) (Kd.C_below hL hb) hA1 h1 (hR.below hb) h2 hwf)
  have HSM := Lib.hid (fun (A3 : Option Addr) c3 (A4 : Option Addr) c4 W (hb : Below w.heap.size w W) (g1 : Kd.C k112 W A3 ls.length ls) (g2 : RowC W A4 (rcells rows)) q1 q2 => same41_any A3 c3 A4 c4 A1 c1 A2 c2 ls rows W hls hm g1 q1 g2 q2 (Kd.C_below hL hb) h1 (hR.below hb) h2)
  have HLN := Lib.hid (splitC_len ls rows most)
  have hll : (splitC ls rows most).length ≤ 4398046511104 := by have := HLN.out; omega
  have HMM := Lib.hid (fun (rs : List RK) (h : rs.map RK.x = splitC ls rows most) => splitC_mem h)
  clear hT hL hR hwf hsz
  go_enter Tryd.func7, Tryd.ntmps7
  go_wp2_with (first
    | (go_at_call 34; refine (HOW.out).mono ?_; rintro e w1 ⟨A3, c3, A4, c4, rfl, hq1, hq2, hL3, hR4, hb⟩; have HQ := Lib.hid (And.intro hq1 hq2); have HB1 := Lib.hid (below_step hb0 hb); have HK1 := Lib.hid (show LK w w1.heap.size A1 c1 ls A2 c2 rows A3 c3 A4 c4 (w1.alloc (.cells #[.slice A3 ls.length c3, .slice A4 rows.length c4] 53)) from ⟨(Blk.below k0 hb k0.lt).alloc _, Blk.new _ _ _ _ rfl, Kd.C_below hL3 ((Below.refl w1.heap.size w1).alloc (Nat.le_refl _) _), hR4.below ((Below.refl w1.heap.size w1).alloc (Nat.le_refl _) _), HB1.out.alloc HB1.out.size _⟩); have x0 := HK1.out.k1.cell 0 _ rfl; have x1 := HK1.out.k1.cell 1 _ rfl; clear hL3 hR4 hb c00 c01)
    | (go_at_call 43; (with_reducible refine (HCS.out A3 c3 A4 c4 _ HK1.out.below HK1.out.L3 HK1.out.R4 HQ.out.2).mono ?_); rintro e w3 ⟨A5, c5, rsA, he, hrA, hOA, hb⟩; rw [len_of hrA] at he; have HLA := Lib.hid (len_of hrA); rw [len_of hrA] at hOA; subst he; have HK3 := Lib.hid (HK1.out.step hb); have HB3 := Lib.hid hb; have y0 := HK3.out.k0.cell 0 _ rfl; have y1 := HK3.out.k0.cell 1 _ rfl; have HOA := Lib.hid hOA; have HRA := Lib.hid hrA; clear hb hOA hrA x0 x1)
    | (go_at_call 45; (with_reducible refine (HRS.out _ HK3.out.below).mono ?_); rintro e w4 ⟨A6, c6, rsB, he, hrB, hOB, hb⟩; rw [len_of hrB] at he hOB; subst he; have HB4 := Lib.hid (below_step HB3.out hb); have HOA4 := Lib.hid (HOA.out.below hb); have HOB := Lib.hid hOB; have HRB := Lib.hid hrB; clear hb hOB hrB)
    | (go_at_call 44; (with_reducible refine (sames44_any A5 A6 (splitC ls rows most).length c5 c6 rsA rsB _ (HOA4.out.reads (fun r hr => by rw [(HMM.out _ HRA.out r hr).1]; omega)).1 (HOB.out.reads (fun r hr => by rw [(HMM.out _ HRB.out r hr).1]; omega)).1 (HRA.out.trans HRB.out.symm) (by omega) (fun r hr => ⟨by rw [(HMM.out _ HRA.out r hr).1]; omega, by have := (HMM.out _ HRA.out r hr).2; omega⟩)).mono ?_); rintro e w5 ⟨rfl, hb⟩; have HB5 := Lib.hid (below_step HB4.out hb); have HOA5 := Lib.hid (HOA4.out.below hb); clear hb))
  have HS : Hid (SpoK (w1.alloc (.cells #[.slice A3 ls.length c3, .slice A4 rows.length c4] 53)).heap.size (.slice A5 (splitC ls rows most).length c5) rsA w5 w5) := Lib.hid (HOA5.out.spo HB5.out.size)
  have HW5 := Lib.hid (And.intro HK1.out HB5.out)
  obtain ⟨BB, hBB⟩ : ∃ BB, BB = (w1.alloc (.cells #[.slice A3 ls.length c3, .slice A4 rows.length c4] 53)).heap.size := ⟨_, rfl⟩
  rw [← hBB] at HS
  have HBB := Lib.hid hBB
  clear hBB y0 y1
  go_loopw [8, 9] (fun v8 v9 wr => ∃ i : Nat, v8 = .int .i64 (i : Int) ∧ i ≤ (splitC ls rows most).length ∧ Hid (SpoK BB (.slice A5 (splitC ls rows most).length c5) rsA w5 wr)) (fun v8 _ _ => (splitC ls rows most).length - (intOf v8).toNat)
  case atStart => exact ⟨0, rfl, Nat.zero_le _, HS⟩
  case round =>
    obtain ⟨i, rfl, hi, HI⟩ := hrel
    by_cases hlt0 : i < (splitC ls rows most).length
    · have hltz : (i : Int) < ((splitC ls rows most).length : Int) := by omega
      have hlt : i < rsA.length := by rw [HLA.out]; exact hlt0
      have HX : Hid (∀ W, SpoK BB (.slice A5 (splitC ls rows most).length c5) rsA w5 W → ∃ g, A5 = some ⟨g, 0, none⟩ ∧ W.cell? ⟨g, i * 2 + 1, none⟩ = some (.slice rsA[i].A2 rsA[i].rows.length rsA[i].c2)) := Lib.hid (fun W hW => by
        obtain ⟨g, q, h1, h2⟩ := hW.outer RK.cells_len hlt (j := 1) (by decide)
        injection h1 with a1 a2 a3
        exact ⟨g, a1, h2 _ rfl⟩)
      have HY : Hid (∀ W k, SpoK BB (.slice A5 (splitC ls rows most).length c5) rsA w5 W → k < rsA[i].rows.length → ∃ g, rsA[i].A2 = some ⟨g, 0, none⟩ ∧ (∃ u, W.cell? ⟨g, k * 3 + 2, none⟩ = some u) ∧ W.frozen? ⟨g, k * 3 + 2, none⟩ = false ∧ ∀ u, SpoK BB (.slice A5 (splitC ls rows most).length c5) rsA w5 (W.setCell ⟨g, k * 3 + 2, none⟩ u)) := Lib.hid (fun W k hW hk => by
        obtain ⟨g, h1, h2, ⟨cur, fz, h3⟩, h4, h5⟩ := SpoI.at hW (List.getElem_mem hlt) (j := 2) hk (by decide)
        exact ⟨g, h1, h4, h5, fun u => SpoI.write hW (by decide) h2 h3⟩)
      have hml : rsA[i].rows.length ≤ 4398046511104 := by have := (HMM.out _ HRA.out _ (List.getElem_mem hlt)).2; omega
      generalize rsA[i].A2 = a2 at *
      generalize rsA[i].rows.length = m at *
      generalize rsA[i].c2 = q2 at *
      go_wp2_with fail
      go_loopw [9] (fun v9 wi => ∃ k : Nat, v9 = .int .i64 (k : Int) ∧ k ≤ m ∧ Hid (SpoK BB (.slice A5 (splitC ls rows most).length c5) rsA w5 wi)) (fun v9 _ => m - (intOf v9).toNat)
      case atStart => exact ⟨0, rfl, Nat.zero_le _, HI⟩
      case round =>
        obtain ⟨k, rfl, hk, HK⟩ := hrel
        obtain ⟨g, rfl, x0⟩ := HX.out _ HK.out
        by_cases hkt : k < m
        · have hktz : (k : Int) < (m : Int) := by omega
          obtain ⟨g2, rfl, ⟨u, y0⟩, y1, y2⟩ := HY.out _ k HK.out hkt
          have HW := Lib.hid y2
          clear y2
          go_wp2_with fail
          go_roundw
          case rel => exact ⟨k + 1, by go_num, by omega, HW.out _⟩
          case measure => simp [intOf]; omega
        · have hktz : ¬ (k : Int) < (m : Int) := by omega
          go_wp2_with fail
          go_roundw
          case rel => exact ⟨i + 1, by go_num, by omega, HK⟩
          case measure => simp [intOf]; omega
    · have hltz : ¬ (i : Int) < ((splitC ls rows most).length : Int) := by omega
      have hb7 := HW5.out.2.trans (by rw [← HBB.out]; exact HI.out.below)
      have HK7 := Lib.hid (HW5.out.1.step hb7)
      have v0 := HK7.out.k0.cell 0 _ rfl
      have v1 := HK7.out.k0.cell 1 _ rfl
      have v2 := HK7.out.k1.cell 0 _ rfl
      have v3 := HK7.out.k1.cell 1 _ rfl
      clear hb7
      go_wp2_with (first
        | (go_at_call 41; (with_reducible refine (HSM.out A3 c3 A4 c4 _ HK7.out.below HK7.out.L3 HK7.out.R4 HQ.out.1 HQ.out.2).mono ?_); rintro e w8 ⟨rfl, hb⟩; have HB8 := Lib.hid (below_step HK7.out.below hb); clear hb)
        | (go_at_call 42; (with_reducible refine (HKN.out _ HB8.out).mono ?_); rintro e w9 ⟨rfl, hb⟩; have HB9 := Lib.hid (below_step HB8.out hb); clear hb))
      go_ret
      exact ⟨rfl, HB9.out⟩
end Go.Proofs.YtojocffjajcdmaaDoor.RF
