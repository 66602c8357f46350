/- A range over an iterator that keeps cells of its own: what iterator and caller owe each other, and the caller's law. -/
import Derived.RangeFuncNested
import Derived.RangeFuncBound
import Derived.RangeFuncCalls
import Derived.RangeFuncLeaves
import Derived.Test.YtojocffjajcdmaaDoorLT
import Derived.Shelf.Abstract
import Derived.Shelf.RegionOpen
import Derived.OwnWalkIn
import Derived.TacticsInMore
import Derived.LoopNIn
import Derived.LoopIn
import Derived.Deep.RegionHeld3
import Derived.Sort.QuietTacIn
import Derived.Lib.QuietBelow
import Derived.OrdersHeld
import Derived.OrdersIn
import Derived.Test.YtojocffjajcdmaaDoorLA
import Derived.Maps.Own
import Derived.Maps.OwnOps
import Derived.Maps.Views
import Derived.Carry
namespace Go.Proofs.YtojocffjajcdmaaDoor.RF
open Go Go.RowKit
set_option linter.unusedVariables false
set_option linter.unusedSimpArgs false

/-- It minds nothing that turns in the three blocks from B on. -/
def Stout {β : Type} (B : Nat) (I : β → World → Prop) : Prop := ∀ s X Y row, I s X → X.grownBy Y row → (∀ r, row = some r → B ≤ r ∧ r ≤ B + 2) → I s Y
/-- It minds no new block, and no store into the cells of block B. -/
def Calm {β : Type} (B : Nat) (J : β → World → Prop) : Prop := ∀ s X Y row, J s X → X.grownBy Y row → (∀ r, row = some r → r = B ∧ ∃ o : Obj, X.heap[r]? = some o ∧ o.isCells = true) → J s Y
/-- What an iterator with cells of its own answers, whatever a round does that keeps Kp. -/
def SeqC {α : Type} (F : Fence) (n : Nat) (P : Program) (g : Nat) (lb : Array Value) (encs : α → Array Value) (Kp : World → World → Prop) (S Sp : List α → Prop) (T : List α → α → Prop) (w : World) : Prop :=
  ∀ (l : Nat) (J Jx : List α → World → Prop) (W : World), Below w.heap.size w W → Calm W.heap.size J → Calm W.heap.size Jx →
    (∀ pre x X, J pre X → T pre x → W.heap.size < X.heap.size → YieldAt F (n - 1) P l (encs x) X fun e Y =>
      (e = .returned (.bool true) ∧ J (pre ++ [x]) Y ∧ Kp X Y) ∨ (e = .returned (.bool false) ∧ Jx (pre ++ [x]) Y)) →
    J [] W →
    CallsIn F n P g (#[.func (.yield l) #[] #[]] ++ lb) W fun e Y => (∃ v, e = .returned v) ∧ ((∃ xs, S xs ∧ J xs Y) ∨ (∃ pre, Sp pre ∧ Jx pre Y))

theorem Stout.putObj {β : Type} {B : Nat} {I : β → World → Prop} (h : Stout B I) {s : β} {W : World} {l : Nat} (o' : Obj) (hs : I s W) (hB : B ≤ l ∧ l ≤ B + 2) : I s (W.putObj l o') :=
  h s W _ (some l) hs (grownBy_putObj' W l o') (fun r e => by cases e; exact hB)
theorem Stout.alloc {β : Type} {B : Nat} {I : β → World → Prop} (h : Stout B I) {s : β} {W : World} (o : Obj) (hs : I s W) : I s (W.alloc o) :=
  h s W _ none hs (World.grownBy_alloc W o none) (fun r e => by cases e)
/-- What is no cells lies on through a store into cells. -/
theorem grown_same {W W' : World} {row : Option Nat} (hg : W.grownBy W' row) (hrow : ∀ r, row = some r → ∃ o : Obj, W.heap[r]? = some o ∧ o.isCells = true) {k : Nat} {o : Obj} (hk : W.heap[k]? = some o) (ho : o.isCells = false) : W'.heap[k]? = some o := by
  refine (hg.block k (Array.getElem?_eq_some_iff.1 hk).1 (fun e => ?_)).trans hk
  obtain ⟨o', h1, h2⟩ := hrow k e.symm
  rw [hk] at h1; cases h1; rw [ho] at h2; cases h2

variable {F : Fence} {n : Nat} {P : Program}
theorem wpIn_range {α : Type} {g : Operand} {ps : Array Tmp} {assign body : Code} {Q : Exit → Act → World → Prop} {a : Act} {w : World}
    (hro : F.round = none) (h1 : 1 ≤ n) {gf : Nat} {lb : Array Value} (hg : a.eval g = .func (.func gf) #[] lb) (hFg : F.fn gf) (eg : ∀ args w, (callFunc gf args).run P w = .ok (.enter gf args) w)
    {encs : α → Array Value} {Kp : World → World → Prop} {S Sp : List α → Prop} {T : List α → α → Prop} {w0 : World} (hseq : SeqC F (n - 1) P gf lb encs Kp S Sp T w0)
    (hKt : ∀ {A B C : World}, Kp A B → Kp B C → Kp A C) (hKb : ∀ (W : World) (l : Nat) (o o' : Obj), w.heap.size ≤ l → W.heap[l]? = some o → o.isCells = false → Kp W (W.putObj l o')) (hb0 : Below w0.heap.size w0 w) (hps : ∀ x, (encs x).size = ps.size)
    (I : List α → World → Prop) (Ix : Code → List α → World → Prop) (hI : Stout w.heap.size I) (hIx : ∀ c, Stout w.heap.size (Ix c)) (h0 : I [] w) (Ax : α → Act → World → Prop)
    (hAx : ∀ x a' W l o o', Ax x a' W → w.heap.size ≤ l → W.heap[l]? = some o → o.isCells = false → Ax x a' (W.putObj l o'))
    (hassign : ∀ (l : Nat) (pre : List α) (x : α) (W : World) (K : Act → World → Prop), I pre W → w.heap.size + 3 ≤ W.heap.size → (∀ a' Y, KeepsFrom w.heap.size W Y → Kp W Y → I pre Y → Ax x a' Y → K a' Y) →
      assign.wpIn (F.inRound l) (n - 1 - 1) P (Exit.then K (fun _ _ _ => False)) { tmps := (ps.zip (encs x)).foldl (fun t (p, v) => t.setIfInBounds p v) a.tmps, defers := [] } W)
    (hbody : ∀ (l : Nat) (pre : List α) (x : α) (a' : Act) (W : World), w.heap.size + 3 ≤ W.heap.size → I pre W → Ax x a' W → T pre x → body.wpIn (F.inRound l) (n - 1 - 1) P (ownPostG w.heap.size Kp I Ix (pre ++ [x]) W) a' W)
    (hdone : ∀ (D : Nat) (xs : List α) (W : World), w.heap.size = D → S xs → I xs W → W.heap[D]? = some (.deferred (some [])) → Q .normal { a with defers := { target := .collected D, args := #[] } :: a.defers } W)
    (hstop : ∀ (D : Nat) (c : Code) (pre : List α) (W : World), w.heap.size = D → Sp pre → Ix c pre W → W.heap[D]? = some (.deferred (some [])) → c.wpIn F n P Q { a with defers := { target := .collected D, args := #[] } :: a.defers } W) :
    (Code.rangeFunc g ps assign body).wpIn F n P Q a w := by
  refine wpIn_rangeFunc ?_
  intro fn hfn
  rw [hro]
  -- the loop's record, and the world in which the iterator is called
  obtain ⟨rec, hrec⟩ : ∃ rec : LoopState → Option Code → Loop, rec = fun st pe => { state := st, pending := pe, fn, tmps := a.tmps, params := ps, assign, body, defers := w.heap.size } := ⟨_, rfl⟩
  obtain ⟨V, hV⟩ : ∃ V, (w.alloc (.deferred (some []))).alloc (.loop (rec .ready none)) = V := ⟨_, rfl⟩
  have hsz : V.heap.size = w.heap.size + 2 := by rw [← hV]; simp
  have vl : V.heap[w.heap.size + 1]? = some (.loop (rec .ready none)) := by
    rw [← hV]; have := World.alloc_heap_new (w.alloc (.deferred (some []))) (.loop (rec .ready none)); rwa [World.size_alloc] at this
  have vd : V.heap[w.heap.size]? = some (.deferred (some [])) := by
    rw [← hV]; exact (Below.heap_alloc _ _ _ (by simp)).trans (World.alloc_heap_new w _)
  have vi : I [] V := by rw [← hV]; exact hI.alloc _ (hI.alloc _ h0)
  have vb : Below w0.heap.size w0 V := by
    rw [← hV]; exact hb0.trans ((((Below.refl _ w).alloc (Nat.le_refl _) _).alloc (by simp) _).mono hb0.size)
  refine ⟨w.heap.size + 1, [{ target := .collected w.heap.size, args := #[] }], V, { target := .fn (.func gf) lb, args := #[.func (.yield (w.heap.size + 1)) #[] #[]] }, V, gf,
    #[.func (.yield (w.heap.size + 1)) #[] #[]] ++ lb, V, ?_, ?_, ?_, ?_, fun _ => h1, ?_⟩
  · rw [← hV, hrec]; exact run_enterLoop_outer _ _ _ _ _
  · simp only [resolve, hg]
    simp [go_sem]
  · intro f' hf'; simp [Target.leads] at hf'; subst hf'; exact hFg
  · simp [invoke, go_sem, eg]
  · refine (hseq (w.heap.size + 1)
      (fun pre W => I pre W ∧ W.heap[w.heap.size + 1]? = some (.loop (rec .ready none)) ∧ W.heap[w.heap.size]? = some (.deferred (some [])))
      (fun pre W => ∃ c, Ix c pre W ∧ W.heap[w.heap.size + 1]? = some (.loop (rec .done (some c))) ∧ W.heap[w.heap.size]? = some (.deferred (some [])))
      V vb
      (fun s X Y row hs hg' hr => ⟨hI s X Y row hs.1 hg' (fun r e => by have := (hr r e).1; rw [hsz] at this; omega), grown_same hg' (fun r e => (hr r e).2) hs.2.1 rfl, grown_same hg' (fun r e => (hr r e).2) hs.2.2 rfl⟩)
      (fun s X Y row hs hg' hr => by
        obtain ⟨c, hc, hl, hk⟩ := hs
        exact ⟨c, hIx c s X Y row hc hg' (fun r e => by have := (hr r e).1; rw [hsz] at this; omega), grown_same hg' (fun r e => (hr r e).2) hl rfl, grown_same hg' (fun r e => (hr r e).2) hk rfl⟩)
      ?_ ⟨vi, vl, vd⟩).mono ?_
    · -- a round
      rintro pre x W ⟨hi, hl, hk⟩ hlen hbig
      have hlt : w.heap.size + 1 < W.heap.size := (Array.getElem?_eq_some_iff.1 hl).1
      have hy := run_yield (P := P) (args := encs x) hl (by rw [hrec]; exact hps x)
      rw [hrec] at hy
      refine ⟨fn, _, assign, body, hy, roundIn_of_wpIn hfn (hassign _ pre x W _ hi (by omega) ?_)⟩
      clear hy
      intro a' Wa kf kp hia hax
      have hl1 := kf.same _ _ (by omega) hl rfl
      have hk1 := kf.same _ _ (Nat.le_refl _) hk rfl
      have hlt1 : w.heap.size + 1 < Wa.heap.size := (Array.getElem?_eq_some_iff.1 hl1).1
      refine ⟨_, run_beginRound hl1 (by rw [hrec]), ?_⟩
      have hl2 : (Wa.putObj (w.heap.size + 1) (.loop { rec .ready none with state := .busy })).heap[w.heap.size + 1]? = some (.loop { rec .ready none with state := .busy }) := World.putObj_heap_same hlt1
      have hk2 : (Wa.putObj (w.heap.size + 1) (.loop { rec .ready none with state := .busy })).heap[w.heap.size]? = some (.deferred (some [])) := (World.putObj_heap_other (by omega)).trans hk1
      have kp2 : Kp Wa (Wa.putObj (w.heap.size + 1) (.loop { rec .ready none with state := .busy })) := hKb _ _ _ _ (by omega) hl1 rfl
      refine wpIn_mono (hbody _ pre x a' _ (by have := kf.size; simp; omega) (hI.putObj _ hia ⟨by omega, by omega⟩) (hAx x a' _ _ _ _ hax (by omega) hl1 rfl) hlen) ?_
      have fin : ∀ (jump : Option Code) (W3 : World), KeepsFrom w.heap.size (Wa.putObj (w.heap.size + 1) (.loop { rec .ready none with state := .busy })) W3 →
          (Instr.endRound (w.heap.size + 1) jump).run P W3 = .ok (.bool jump.isNone) (W3.putObj (w.heap.size + 1) (.loop (rec (if jump.isNone then .ready else .done) jump))) ∧
          W3.heap[w.heap.size + 1]? = some (.loop { rec .ready none with state := .busy }) ∧
          (W3.putObj (w.heap.size + 1) (.loop (rec (if jump.isNone then .ready else .done) jump))).heap[w.heap.size + 1]? = some (.loop (rec (if jump.isNone then .ready else .done) jump)) ∧
          (W3.putObj (w.heap.size + 1) (.loop (rec (if jump.isNone then .ready else .done) jump))).heap[w.heap.size]? = some (.deferred (some [])) := fun jump W3 k3 => by
        have hl3 := k3.same _ _ (by omega) hl2 rfl
        have := run_endRound (P := P) jump hl3
        rw [hrec] at this ⊢
        exact ⟨this, by rw [hrec] at hl3; exact hl3, World.putObj_heap_same (Array.getElem?_eq_some_iff.1 hl3).1, (World.putObj_heap_other (by omega)).trans (k3.same _ _ (Nat.le_refl _) hk2 rfl)⟩
      rintro e a3 W3 hp
      cases e with
      | normal =>
        obtain ⟨k3, kp3, hi3⟩ := hp
        obtain ⟨hr, hl3, hl4, hk4⟩ := fin none W3 k3
        exact ⟨_, _, hr, .inl ⟨rfl, ⟨hI.putObj _ hi3 ⟨by omega, by omega⟩, hl4, hk4⟩, hKt kp (hKt (hKt kp2 kp3) (hKb _ _ _ _ (by omega) hl3 rfl))⟩⟩
      | ret =>
        obtain ⟨k3, hi3⟩ := hp
        obtain ⟨hr, hl3, hl4, hk4⟩ := fin (some .ret) W3 k3
        exact ⟨_, _, hr, .inr ⟨rfl, .ret, (hIx _).putObj _ hi3 ⟨by omega, by omega⟩, hl4, hk4⟩⟩
      | exit id =>
        obtain ⟨k3, hi3⟩ := hp
        obtain ⟨hr, hl3, hl4, hk4⟩ := fin (some (.exit id)) W3 k3
        exact ⟨_, _, hr, .inr ⟨rfl, .exit id, (hIx _).putObj _ hi3 ⟨by omega, by omega⟩, hl4, hk4⟩⟩
      | goto t =>
        obtain ⟨k3, hi3⟩ := hp
        obtain ⟨hr, hl3, hl4, hk4⟩ := fin (some (.goto t)) W3 k3
        exact ⟨_, _, hr, .inr ⟨rfl, .goto t, (hIx _).putObj _ hi3 ⟨by omega, by omega⟩, hl4, hk4⟩⟩
      | panic ch => exact hp.elim
      | outgrown => exact hp.elim
    · -- behind the iterator
      rintro e W2 ⟨⟨v, rfl⟩, (⟨xs, hS, hi, hl, hk⟩ | ⟨pre, hSp, c, hi, hl, hk⟩)⟩
      · exact ⟨none, _, by have := run_endLoop (P := P) hl (by rw [hrec]; simp); rw [hrec] at this; exact this, hdone _ xs _ rfl hS (hI.putObj _ hi ⟨by omega, by omega⟩) ((World.putObj_heap_other (by omega)).trans hk)⟩
      · exact ⟨some c, _, by have := run_endLoop (P := P) hl (by rw [hrec]; simp); rw [hrec] at this; exact this, hstop _ c pre _ rfl hSp ((hIx c).putObj _ hi ⟨by omega, by omega⟩) ((World.putObj_heap_other (by omega)).trans hk)⟩
end Go.Proofs.YtojocffjajcdmaaDoor.RF
/- chunk.pairs: what its iterator hands over. -/
namespace Go.Proofs.YtojocffjajcdmaaDoor.RF
open Go Go.RowKit Go.Shelf Go.Proofs.YtojocffjajcdmaaDoor Go.Proofs.YtojocffjajcdmaaDoorW.PrintWords Go.Proofs.YtojocffjajcdmaaDoorW.PrintLast Go.Proofs.YtojocffjajcdmaaDoorW.PrintMore PChunkAll
set_option linter.unusedVariables false
set_option linter.unusedSimpArgs false
attribute [local go_sem] Oper.semAt_some

abbrev rowV (x : S71) : Value := .agg #[.int .i64 x.f0, .int .i64 x.f1, .string x.f2]
abbrev rowC (x : S71) : Array Value := #[.int .i64 x.f0, .int .i64 x.f1, .string x.f2]
def rcells (l : List S71) : List Value := l.flatMap fun x => [.int .i64 x.f0, .int .i64 x.f1, .string x.f2]
/-- Rows, each with the one ahead of it. -/
def pairsL : S71 → List S71 → List (S71 × S71)
  | _, [] => []
  | p, x :: l => (p, x) :: pairsL x l
theorem pairsL_len (p : S71) (l : List S71) : (pairsL p l).length = l.length := by
  induction l generalizing p with
  | nil => rfl
  | cons x l ih => simp [pairsL, ih]
/-- The one ahead of number i. -/
def prevR (p : S71) (l : List S71) (i : Nat) : S71 := if i = 0 then p else l.getD (i - 1) z71
theorem pairsL_take (p : S71) (l : List S71) (i : Nat) (h : i < l.length) : (pairsL p l).take (i + 1) = (pairsL p l).take i ++ [(prevR p l i, l[i])] := by
  induction l generalizing p i with
  | nil => simp at h
  | cons x l ih =>
    cases i with
    | zero => simp [pairsL, prevR]
    | succ i =>
      have hi : i < l.length := by simpa using h
      simp only [pairsL, List.take_succ_cons, List.cons_append, List.getElem_cons_succ]
      rw [ih x i hi]
      congr 3
      unfold prevR
      cases i with
      | zero => simp
      | succ i => simp

/-- But for the blocks S, what is cells lies as it lay. -/
structure KpS (S : Nat → Prop) (X Y : World) : Prop where
  size : X.heap.size ≤ Y.heap.size
  same : ∀ (k : Nat) (o : Obj), ¬ S k → X.heap[k]? = some o → o.isCells = true → Y.heap[k]? = some o
theorem KpS.refl (S : Nat → Prop) (X : World) : KpS S X X := ⟨Nat.le_refl _, fun _ _ _ h _ => h⟩
theorem KpS.trans {S : Nat → Prop} {A B C : World} (h : KpS S A B) (k : KpS S B C) : KpS S A C := ⟨Nat.le_trans h.size k.size, fun i o hs hi ho => k.same i o hs (h.same i o hs hi ho) ho⟩
theorem KpS.putObj {S : Nat → Prop} (W : World) (l : Nat) (o o' : Obj) (h : W.heap[l]? = some o) (ho : o.isCells = false) : KpS S W (W.putObj l o') :=
  ⟨by simp, fun k p _ hk hp => by
    by_cases e : k = l
    · subst e; rw [h] at hk; cases hk; rw [ho] at hp; cases hp
    · exact (World.putObj_heap_other e).trans hk⟩
theorem KpS.of_below {S : Nat → Prop} {X Y : World} (h : Below X.heap.size X Y) : KpS S X Y := ⟨h.size, fun k o _ hk _ => (h.block k (Array.getElem?_eq_some_iff.1 hk).1).trans hk⟩
theorem KpS.set {S : Nat → Prop} {X : World} {a : Addr} {v : Value} (h : S a.block) : KpS S X (X.setCell a v) :=
  ⟨by show X.heap.size ≤ (X.heap.modify _ _).size; rw [Array.size_modify]; exact Nat.le_refl _, fun k o hs hk _ => (Below.heap_setCell X a v k (fun e => hs (by rw [e]; exact h))).trans hk⟩
theorem KpS.cell {S : Nat → Prop} {X Y : World} (h : KpS S X Y) {a : Addr} {v : Value} (hs : ¬ S a.block) (hc : X.cell? a = some v) : Y.cell? a = some v := by
  have hc' := hc
  unfold World.cell? at hc
  cases ho : X.heap[a.block]? with
  | none => simp [ho] at hc
  | some o =>
    have h2 := h.same _ _ hs ho (by cases o <;> simp_all [Obj.isCells])
    unfold World.cell? at hc' ⊢
    rw [h2]; rw [ho] at hc'; exact hc'
theorem KpS.rowc {S : Nat → Prop} {X Y : World} (h : KpS S X Y) {A : Option Addr} {xs : List Value} (hr : RowC X A xs) (hs : ∀ b o, A = some ⟨b, o, none⟩ → ¬ S b) : RowC Y A xs := fun hp => by
  obtain ⟨b, o, e, hc⟩ := hr hp
  exact ⟨b, o, e, fun j u hu => h.cell (hs b o e) (hc j u hu)⟩
theorem KpS.blk {S : Nat → Prop} {X Y : World} (h : KpS S X Y) {b t : Nat} {cs : Array Value} (hb : Blk X b cs t) (hs : ¬ S b) : Blk Y b cs t := ⟨h.same b _ hs hb.out rfl⟩
theorem rowC_far {X : World} {g i : Nat} {v : Value} {A : Option Addr} {xs : List Value} (h : RowC X A xs) (hne : ∀ b o, A = some ⟨b, o, none⟩ → b ≠ g) : RowC (X.setCell ⟨g, i, none⟩ v) A xs := fun hp => by
  obtain ⟨b, o, e, hc⟩ := h hp
  refine ⟨b, o, e, fun j u hu => ?_⟩
  rw [← hc j u hu]
  unfold World.cell?
  rw [Below.heap_setCell X ⟨g, i, none⟩ v b (hne b o e)]
theorem rowC_lt {X : World} {A : Option Addr} {xs : List Value} (h : RowC X A xs) (hp : 0 < xs.length) : ∀ b o, A = some ⟨b, o, none⟩ → b < X.heap.size := by
  intro b o e
  obtain ⟨b', o', e', hc⟩ := h hp
  rw [e] at e'
  injection e' with e'; injection e' with e1 e2
  subst e1
  exact block_lt_of_cell (hc 0 _ (List.getElem?_eq_getElem hp))
theorem grown_set (X : World) (b i : Nat) (v : Value) : X.grownBy (X.setCell ⟨b, i, none⟩ v) (some b) :=
  ⟨rfl, rfl, rfl, by simp [World.setCell], fun k _ hk => Below.heap_setCell X ⟨b, i, none⟩ v k (fun e => hk (by rw [e]))⟩
theorem Calm.set {β : Type} {B : Nat} {J : β → World → Prop} (h : Calm B J) {s : β} {X : World} {b t : Nat} {cs : Array Value} (hs : J s X) (hb : Blk X b cs t) (hB : b = B) (i : Nat) (v : Value) : J s (X.setCell ⟨b, i, none⟩ v) :=
  h s X _ (some b) hs (grown_set X b i v) (fun r e => by cases e; exact ⟨hB, _, hb.out, rfl⟩)
theorem Calm.alloc {β : Type} {B : Nat} {J : β → World → Prop} (h : Calm B J) {s : β} {X : World} (hs : J s X) (o : Obj) : J s (X.alloc o) :=
  h s X _ none hs (World.grownBy_alloc X o none) (fun r e => by cases e)

theorem set3 {X : World} {b t : Nat} {a0 a1 a2 : Value} (h : Blk X b #[a0, a1, a2] t) (u0 u1 u2 : Value) : Blk (((X.setCell ⟨b, 0, none⟩ u0).setCell ⟨b, 1, none⟩ u1).setCell ⟨b, 2, none⟩ u2) b #[u0, u1, u2] t := by
  have := ((h.set 0 u0).set 1 u1).set 2 u2
  simpa using this
theorem rcells_at {w : World} {b o : Nat} {l : List S71} (hc : ∀ j u, (rcells l)[j]? = some u → w.cell? ⟨b, o + j, none⟩ = some u) (i : Nat) (h : i < l.length) :
    w.cell? ⟨b, o + i * 3, none⟩ = some (.int .i64 l[i].f0) ∧ w.cell? ⟨b, o + i * 3 + 1, none⟩ = some (.int .i64 l[i].f1) ∧ w.cell? ⟨b, o + i * 3 + 2, none⟩ = some (.string l[i].f2) := by
  have g := fun j (hj : j < 3) => flat_get (fun x : S71 => [Value.int .i64 x.f0, .int .i64 x.f1, .string x.f2]) 3 (fun _ => rfl) l i j h hj
  refine ⟨hc _ _ ((g 0 (by omega)).trans rfl), ?_, ?_⟩
  · have := hc _ _ ((g 1 (by omega)).trans rfl); rwa [← Nat.add_assoc] at this
  · have := hc _ _ ((g 2 (by omega)).trans rfl); rwa [← Nat.add_assoc] at this
theorem rcells_len (l : List S71) : (rcells l).length = l.length * 3 := flat_len _ 3 (fun _ => rfl) l

set_option maxRecDepth 100000 in
set_option maxHeartbeats 4000000 in
/-- The iterator's body. -/
theorem pairs1_in (F : Fence) (n : Nat) (h6 : F.fn 151) (hro : F.round = none) (hn : 1 ≤ n) (S : Nat → Prop) (l Bn : Nat) (A : Option Addr) (c : Nat) (rows : List S71) (J Jx : List (S71 × S71) → World → Prop) (W : World)
    (hS : ∀ k, S k → k < W.heap.size) (hSr : ∀ b o, A = some ⟨b, o, none⟩ → ¬ S b) (hJ : Calm W.heap.size J)
    (hY : ∀ pre x X, J pre X → (pre ++ [x]) <+: pairsL z71 rows → W.heap.size < X.heap.size → YieldAt F (n - 1) Tryd.prog l #[rowV x.1, rowV x.2] X fun e Y =>
      (e = .returned (.bool true) ∧ J (pre ++ [x]) Y ∧ KpS S X Y) ∨ (e = .returned (.bool false) ∧ Jx (pre ++ [x]) Y))
    (hBn : W.cell? ⟨Bn, 0, none⟩ = some (.slice A rows.length c)) (hL : RowC W A (rcells rows)) (hm : rows.length < 4611686018427387904) (h0 : J [] W) :
    CallsIn F n Tryd.prog 151 #[.func (.yield l) #[] #[], .pointer (some ⟨Bn, 0, none⟩)] W fun e Y => (∃ v, e = .returned v) ∧
      ((∃ ys, ys = pairsL z71 rows ∧ J ys Y) ∨ (∃ pre, pre <+: pairsL z71 rows ∧ Jx pre Y)) := by
  have HJ := Lib.hid hJ
  have HY := Lib.hid hY
  have HS := Lib.hid hS
  have HSR := Lib.hid hSr
  have HL := Lib.hid hL
  have H0 := Lib.hid h0
  clear hJ hY hS hSr hL h0
  refine callsIn_of_wp Tryd.func151 rfl h6 ?_ hro
  simp only [Tryd.ntmps151, List.size_toArray, List.length_cons, List.length_nil, Nat.reduceAdd, Nat.reduceSub, Array.replicate_succ, Array.replicate_zero, List.push_toArray, List.append_toArray, List.nil_append, List.cons_append]
  have hB1 : ∀ cs t, (W.alloc (.cells cs t)).cell? ⟨Bn, 0, none⟩ = some (.slice A rows.length c) := fun cs t => pw_cell_below ((Below.refl _ _).alloc (Nat.le_refl _) _) hBn
  gi_wp2
  gi_loopw [8] (fun p wr => ∃ (i : Nat), p = .int .i64 i ∧ i ≤ rows.length ∧ Hid (J ((pairsL z71 rows).take i) wr ∧ Blk wr W.heap.size (rowC (prevR z71 rows i)) 71 ∧ RowC wr A (rcells rows) ∧ W.heap.size < wr.heap.size))
    (fun p wr => rows.length - (intOf p).toNat)
  case atStart =>
    refine ⟨0, rfl, Nat.zero_le _, HJ.out.alloc H0.out _, Blk.new _ _ _ _ rfl, ?_, by simp⟩
    exact (KpS.of_below (S := S) ((Below.refl _ _).alloc (Nat.le_refl _) _)).rowc HL.out HSR.out
  case round =>
    obtain ⟨i, rfl, hi, HI⟩ := hrel
    by_cases hlt : i < rows.length
    · have hltz : (i : Int) < (rows.length : Int) := by omega
      obtain ⟨b, o, rfl, hc⟩ := HI.out.2.2.1 (by rw [rcells_len]; omega)
      obtain ⟨p0, p1, p2⟩ := rcells_at hc i hlt
      have hnx : Hid ((pairsL z71 rows).take (i + 1) = (pairsL z71 rows).take i ++ [(prevR z71 rows i, rows[i])]) := pairsL_take z71 rows i hlt
      have hpv : Hid (prevR z71 rows (i + 1) = rows[i]) := by show _ = _; unfold prevR; simp [hlt]
      have htl : Hid ((pairsL z71 rows).take i ++ [(prevR z71 rows i, rows[i])] <+: pairsL z71 rows) := by show _ <+: _; rw [← hnx.out]; exact List.take_prefix _ _
      obtain ⟨x, hx⟩ : ∃ x, x = rows[i] := ⟨_, rfl⟩
      obtain ⟨wv, hwv⟩ : ∃ y, y = prevR z71 rows i := ⟨_, rfl⟩
      rw [← hx] at hnx hpv htl p0 p1 p2
      rw [← hwv] at hnx htl HI
      clear hx hwv hc
      have hJs := HJ.out.alloc HI.out.1 (.cells (rowC x) 71)
      obtain ⟨fn, tmps, assign, body, hy, hR⟩ := HY.out _ (wv, x) _ hJs htl.out (by have := HI.out.2.2.2; simp; omega)
      dsimp only at hy
      have bw := (HI.out.2.1).alloc (.cells (rowC x) 71)
      have bx : Blk (wr.alloc (.cells (rowC x) 71)) wr.heap.size (rowC x) 71 := Blk.new _ _ _ _ rfl
      have w0' := bw.cell 0 _ rfl
      have w1' := bw.cell 1 _ rfl
      have w2' := bw.cell 2 _ rfl
      have HBW := Lib.hid bw
      have HBX := Lib.hid bx
      have HRC : Hid (RowC (wr.alloc (.cells (rowC x) 71)) (some ⟨b, o, none⟩) (rcells rows)) := (KpS.of_below (S := S) ((Below.refl _ _).alloc (Nat.le_refl _) _)).rowc HI.out.2.2.1 HSR.out
      have HSZ : Hid (W.heap.size < wr.heap.size) := HI.out.2.2.2
      clear bw bx
      gi_wp2
      refine hR.mono ?_
      rintro e W3 (⟨rfl, hJ3, hk3⟩ | ⟨rfl, hJx3⟩)
      · have hn1 : ¬ S wr.heap.size := fun h => by have := HS.out _ h; have := HSZ.out; omega
        have hn2 : ¬ S W.heap.size := fun h => by have := HS.out _ h; omega
        have bx3 := hk3.blk HBX.out hn1
        have bw3 := hk3.blk HBW.out hn2
        have x0 := bx3.cell 0 _ rfl
        have x1 := bx3.cell 1 _ rfl
        have x2 := bx3.cell 2 _ rfl
        have y0 := bw3.cell 0 _ rfl
        have y1 := bw3.cell 1 _ rfl
        have y2 := bw3.cell 2 _ rfl
        have f0 := bw3.frozen 0
        have f1 := bw3.frozen 1
        have f2 := bw3.frozen 2
        have HB3 := Lib.hid bw3
        have HK3 := Lib.hid hk3
        have HJ3 := Lib.hid hJ3
        have hw1 : IntKind.i64.wrap ((i : Int) + 1) = ((i + 1 : Nat) : Int) := by rw [IntKind.wrap_i64]; omega
        clear bw3 bx3 hk3 hJ3 hn1
        gi_wp2
        go_roundw
        case rel =>
          refine ⟨i + 1, by go_num, by omega, ?_⟩
          have bw3 := HB3.out
          have j1 := HJ.out.set HJ3.out bw3 rfl 0 (.int .i64 x.f0)
          have j2 := HJ.out.set j1 (bw3.set 0 _) rfl 1 (.int .i64 x.f1)
          have j3 := HJ.out.set j2 ((bw3.set 0 _).set 1 _) rfl 2 (.string x.f2)
          refine ⟨by rw [hnx.out]; exact j3, by rw [hpv.out]; exact set3 bw3 _ _ _, ?_, ?_⟩
          · have r3 := HK3.out.rowc HRC.out HSR.out
            have hne : ∀ b' o', (some ⟨b, o, none⟩ : Option Addr) = some ⟨b', o', none⟩ → b' ≠ W.heap.size := fun b' o' e => Nat.ne_of_lt (rowC_lt HL.out (by rw [rcells_len]; omega) b' o' e)
            exact rowC_far (rowC_far (rowC_far r3 hne) hne) hne
          · have h1 := HK3.out.size; have h2 := HSZ.out; have h3 : (wr.alloc (.cells (rowC x) 71)).heap.size = wr.heap.size + 1 := by simp
            simp [World.setCell]; omega
        case measure => simp [intOf]; omega
      · gi_wp2
        refine bodyPost_ret (results_none rfl _ _ _) rfl ?_
        exact ⟨⟨_, rfl⟩, .inr ⟨(pairsL z71 rows).take i ++ [(wv, x)], by rw [← hnx.out]; exact List.take_prefix _ _, hJx3⟩⟩
    · have hltz : ¬ (i : Int) < (rows.length : Int) := by omega
      obtain rfl : i = rows.length := by omega
      gi_wp2
      go_end0
      have hfin := HI.out.1
      rw [List.take_of_length_le (by rw [pairsL_len]; exact Nat.le_refl _)] at hfin
      refine ⟨⟨_, rfl⟩, .inl ?_⟩
      first
        | exact ⟨_, rfl, hfin⟩
        | exact hfin
end Go.Proofs.YtojocffjajcdmaaDoor.RF
/- chunk.pairs, (Row).entry: contracts. -/
namespace Go.Proofs.YtojocffjajcdmaaDoor.RF
open Go Go.RowKit Go.Shelf Go.Proofs.YtojocffjajcdmaaDoor Go.Proofs.YtojocffjajcdmaaDoorW.PrintWords Go.Proofs.YtojocffjajcdmaaDoorW.PrintLast Go.Proofs.YtojocffjajcdmaaDoorW.PrintMore PChunkAll
set_option linter.unusedVariables false
set_option linter.unusedSimpArgs false

theorem pairs_any (A : Option Addr) (n c : Nat) (w : World) : Calls Tryd.prog 112 #[.slice A n c] w fun e w' => e = .returned (.func (.func 151) #[] #[.pointer (some ⟨w.heap.size, 0, none⟩)]) ∧ w' = w.alloc (.cells #[.slice A n c] 51) := by
  go_enter Tryd.func112, Tryd.ntmps112
  go_wp2
  go_ret
  exact ⟨rfl, rfl⟩

/-- What pairs answers, whatever a round does. -/
theorem pairs_seq (S : Nat → Prop) (Bn : Nat) (A : Option Addr) (c : Nat) (rows : List S71) (n : Nat) (hn : 1 ≤ n) (w : World) (hS : ∀ k, S k → k < w.heap.size) (hSr : ∀ b o, A = some ⟨b, o, none⟩ → ¬ S b) (hSB : ¬ S Bn)
    (hBn : w.cell? ⟨Bn, 0, none⟩ = some (.slice A rows.length c)) (hL : RowC w A (rcells rows)) (hm : rows.length < 4611686018427387904) :
    SeqC Fence.wide n Tryd.prog 151 #[.pointer (some ⟨Bn, 0, none⟩)] (fun x : S71 × S71 => #[rowV x.1, rowV x.2]) (KpS S) (fun ys => ys = pairsL z71 rows) (fun pre => pre <+: pairsL z71 rows) (fun pre x => (pre ++ [x]) <+: pairsL z71 rows) w := by
  intro l J Jx W hW hJ hJx hY h0
  have hbw : Below w.heap.size w W := hW
  exact pairs1_in Fence.wide n trivial rfl hn S l Bn A c rows J Jx W (fun k hk => Nat.lt_of_lt_of_le (hS k hk) hW.size) hSr hJ hY (pw_cell_below hW hBn) (hL.below hW) hm h0

theorem own_slice {w : World} {base n : Nat} {e : TypeId} {size : Nat} {v : Value} {xs : List Value} (h : w.ownsRow base e size v n xs) : ∃ A c, v = .slice A n c ∧ n ≤ c := by
  rcases h.2 with ⟨rfl, rfl⟩ | ⟨g, cap, cur, rfl, _, _, h3, _⟩
  · exact ⟨none, 0, rfl, Nat.le_refl _⟩
  · exact ⟨_, cap, rfl, h3⟩
theorem own_ge {W : World} {B : Nat} {e : TypeId} {k n : Nat} {v : Value} {xs : List Value} {b : Nat} (h : W.ownsRow B e k v n xs) (hb : v.ownBlock = some b) : B ≤ b := by
  rcases h.2 with ⟨rfl, _⟩ | ⟨g', cap', cur', rfl, h5, _⟩
  · cases hb
  · simp [Value.ownBlock] at hb; omega
set_option maxHeartbeats 4000000 in
/-- A row as an entry of its own labels. -/
theorem entry_own (x : S71) (A : Option Addr) (c : Nat) (ls : List S112) (w : World) (hr : Kd.C k112 w A ls.length ls) (hl : ls.length < 4398046511104) :
    Calls Tryd.prog 101 #[rowV x, .slice A ls.length c] w fun e w' => ∃ A' c', e = .returned (entA ⟨x.f0, x.f1, ls, x.f2⟩ A' c') ∧ ls.length ≤ c' ∧ w'.ownsRow w.heap.size 112 2 (.slice A' ls.length c') ls.length (lcells ls) ∧ Below w.heap.size w w' := by
  have HR := Lib.hid (fun W (hb : Below w.heap.size w W) => clone_labs A ls.length c (lcells ls) W (lcells_len _) (lcells_one _) ((lab_C hr).below hb) (by omega))
  clear hr
  go_enter Tryd.func101, Tryd.ntmps101
  go_wp2
  refine wp_gen (fun W => Below w.heap.size w W ∧ Blk W w.heap.size (rowC x) 71 ∧ Blk W (w.heap.size + 1) #[.int .i64 0, .int .i64 0, .slice none 0 0, .string ⟨#[]⟩] 33)
    ⟨((Below.refl _ _).alloc (by simp) _).alloc (by simp) _, (Blk.new _ _ _ _ rfl).alloc _, Blk.new _ _ _ _ (by simp)⟩ ?_
  rintro W ⟨hb, b1, b2⟩
  have c1 := b1.cell 0 _ rfl
  have c2 := b1.cell 1 _ rfl
  have c3 := b1.cell 2 _ rfl
  have d0 := b2.cell 0 _ rfl
  have d1 := b2.cell 1 _ rfl
  have d2 := b2.cell 2 _ rfl
  have d3 := b2.cell 3 _ rfl
  have e0 := b2.frozen 0
  have e1 := b2.frozen 1
  have e2 := b2.frozen 2
  have e3 := b2.frozen 3
  go_region_held3 (fun w' => w'.cell? ⟨w.heap.size, 0, none⟩ = some (.int .i64 x.f0) ∧ w'.cell? ⟨w.heap.size, 1, none⟩ = some (.int .i64 x.f1) ∧ w'.cell? ⟨w.heap.size, 2, none⟩ = some (.string x.f2))
    (first | exact ⟨c1, c2, c3⟩ | exact ⟨pw_cell_below hb2 c1, pw_cell_below hb2 c2, pw_cell_below hb2 c3⟩ | go_keep)
    (first | (go_at_call 104; (with_reducible refine (HR.out _ hb.drew).mono ?_); rintro e w2 ⟨v2, rfl, ho2, hb2⟩; obtain ⟨A2, q2, rfl, hq2⟩ := own_slice ho2; have HO2 := Lib.hid ho2; clear ho2; have hbl := Blk.below (b2.drew) hb2 (b2.drew).lt; have hbt := below_step hb.drew hb2; have s0 := hbl.cell 0 _ rfl; have s1 := hbl.cell 1 _ rfl; have s2 := hbl.cell 2 _ rfl; have s3 := hbl.cell 3 _ rfl; have g0 := hbl.frozen 0; have g1 := hbl.frozen 1; have g2 := hbl.frozen 2; have g3 := hbl.frozen 3))
  have hlt : w.heap.size + 1 < W.heap.size := b2.lt
  have B1 := (((hbl.set 0 (.int .i64 x.f0)).set 1 (.int .i64 x.f1)).set 2 (.slice A2 ls.length q2)).set 3 (.string x.f2)
  have B2 : Blk ((((w2.setCell ⟨w.heap.size + 1, 0, none⟩ (.int .i64 x.f0)).setCell ⟨w.heap.size + 1, 1, none⟩ (.int .i64 x.f1)).setCell ⟨w.heap.size + 1, 2, none⟩ (.slice A2 ls.length q2)).setCell ⟨w.heap.size + 1, 3, none⟩ (.string x.f2)) (w.heap.size + 1) #[.int .i64 x.f0, .int .i64 x.f1, .slice A2 ls.length q2, .string x.f2] 33 := by simpa using B1
  have B3 : Below w.heap.size w ((((w2.setCell ⟨w.heap.size + 1, 0, none⟩ (.int .i64 x.f0)).setCell ⟨w.heap.size + 1, 1, none⟩ (.int .i64 x.f1)).setCell ⟨w.heap.size + 1, 2, none⟩ (.slice A2 ls.length q2)).setCell ⟨w.heap.size + 1, 3, none⟩ (.string x.f2)) :=
    (((hbt.setCell (p := ⟨w.heap.size + 1, 0, none⟩) (Nat.le_succ _) _).setCell (p := ⟨w.heap.size + 1, 1, none⟩) (Nat.le_succ _) _).setCell (p := ⟨w.heap.size + 1, 2, none⟩) (Nat.le_succ _) _).setCell (p := ⟨w.heap.size + 1, 3, none⟩) (Nat.le_succ _) _
  have O4 := ownsRow_setCell_below (a := ⟨w.heap.size + 1, 3, none⟩) (ownsRow_setCell_below (a := ⟨w.heap.size + 1, 2, none⟩) (ownsRow_setCell_below (a := ⟨w.heap.size + 1, 1, none⟩) (ownsRow_setCell_below (a := ⟨w.heap.size + 1, 0, none⟩) HO2.out (show w.heap.size + 1 < W.drew.heap.size from hlt) (.int .i64 x.f0)) (show w.heap.size + 1 < W.drew.heap.size from hlt) (.int .i64 x.f1)) (show w.heap.size + 1 < W.drew.heap.size from hlt) (.slice A2 ls.length q2)) (show w.heap.size + 1 < W.drew.heap.size from hlt) (.string x.f2)
  clear s0 s1 s2 s3 g0 g1 g2 g3 hbl hbt hb2 B1 HO2
  generalize ((((w2.setCell ⟨w.heap.size + 1, 0, none⟩ (.int .i64 x.f0)).setCell ⟨w.heap.size + 1, 1, none⟩ (.int .i64 x.f1)).setCell ⟨w.heap.size + 1, 2, none⟩ (.slice A2 ls.length q2)).setCell ⟨w.heap.size + 1, 3, none⟩ (.string x.f2)) = W4 at *
  have HB2 := Lib.hid B2
  have HB3 := Lib.hid B3
  have HO4 := Lib.hid O4
  clear B2 B3 O4
  (try simp only [Exit.then])
  apply_assumption
  apply wp_ret
  refine bodyPost_ret (results_cell_row rfl _ _ _ _ _ _ _ rfl HB2.out.out Tryd.underlying33 rfl (by kernel_rfl)) rfl ?_
  exact ⟨A2, q2, rfl, hq2, own_le HO4.out (by show w.heap.size ≤ W.drew.heap.size; have := hb.size; exact this), HB3.out⟩
theorem entry_any (x : S71) (A : Option Addr) (c : Nat) (ls : List S112) (w : World) (hr : Kd.C k112 w A ls.length ls) (hl : ls.length < 4398046511104) :
    Calls Tryd.prog 101 #[rowV x, .slice A ls.length c] w fun e w' => ∃ A' c', e = .returned (entA ⟨x.f0, x.f1, ls, x.f2⟩ A' c') ∧ ls.length ≤ c' ∧ Kd.C k112 w' A' ls.length ls ∧ Below w.heap.size w w' :=
  (entry_own x A c ls w hr hl).mono fun e w' ⟨A', c', h1, h2, h3, h4⟩ => ⟨A', c', h1, h2, C_lab (by omega) (own_rowC h3), h4⟩
set_option maxHeartbeats 4000000 in
/-- .. and of none. -/
theorem entry_nil (x : S71) (w : World) : Calls Tryd.prog 101 #[rowV x, .slice none 0 0] w fun e w' => e = .returned (entA ⟨x.f0, x.f1, [], x.f2⟩ none 0) ∧ Below w.heap.size w w' := by
  have HN := Lib.hid (fun W => (by
    go_enter Tryd.func104, Tryd.ntmps104
    have q := nil31
    go_wp2
    go_ret
    exact ⟨rfl, rfl⟩ : Calls Tryd.prog 104 #[.slice none 0 0] W fun e w' => e = .returned (.slice none 0 0) ∧ w' = W))
  go_enter Tryd.func101, Tryd.ntmps101
  go_wp2
  refine wp_gen (fun W => Below w.heap.size w W ∧ Blk W w.heap.size (rowC x) 71 ∧ Blk W (w.heap.size + 1) #[.int .i64 0, .int .i64 0, .slice none 0 0, .string ⟨#[]⟩] 33)
    ⟨((Below.refl _ _).alloc (by simp) _).alloc (by simp) _, (Blk.new _ _ _ _ rfl).alloc _, Blk.new _ _ _ _ (by simp)⟩ ?_
  rintro W ⟨hb, b1, b2⟩
  have c1 := b1.cell 0 _ rfl
  have c2 := b1.cell 1 _ rfl
  have c3 := b1.cell 2 _ rfl
  have hbl := b2.drew
  have d0 := b2.cell 0 _ rfl
  have d1 := b2.cell 1 _ rfl
  have d2 := b2.cell 2 _ rfl
  have d3 := b2.cell 3 _ rfl
  have e0 := b2.frozen 0
  have e1 := b2.frozen 1
  have e2 := b2.frozen 2
  have e3 := b2.frozen 3
  have s0 := hbl.cell 0 _ rfl
  have s1 := hbl.cell 1 _ rfl
  have s2 := hbl.cell 2 _ rfl
  have s3 := hbl.cell 3 _ rfl
  have g0 := hbl.frozen 0
  have g1 := hbl.frozen 1
  have g2 := hbl.frozen 2
  have g3 := hbl.frozen 3
  go_region_held3 (fun w' => w'.cell? ⟨w.heap.size, 0, none⟩ = some (.int .i64 x.f0) ∧ w'.cell? ⟨w.heap.size, 1, none⟩ = some (.int .i64 x.f1) ∧ w'.cell? ⟨w.heap.size, 2, none⟩ = some (.string x.f2))
    (first | exact ⟨c1, c2, c3⟩ | go_keep)
    (first | (go_at_call 104; (with_reducible refine (HN.out _).mono ?_); rintro e w2 ⟨rfl, rfl⟩))
  have B1 := (((hbl.set 0 (.int .i64 x.f0)).set 1 (.int .i64 x.f1)).set 2 (.slice none 0 0)).set 3 (.string x.f2)
  have B2 : Blk ((((W.drew.setCell ⟨w.heap.size + 1, 0, none⟩ (.int .i64 x.f0)).setCell ⟨w.heap.size + 1, 1, none⟩ (.int .i64 x.f1)).setCell ⟨w.heap.size + 1, 2, none⟩ (.slice none 0 0)).setCell ⟨w.heap.size + 1, 3, none⟩ (.string x.f2)) (w.heap.size + 1) #[.int .i64 x.f0, .int .i64 x.f1, .slice none 0 0, .string x.f2] 33 := by simpa using B1
  have B3 : Below w.heap.size w ((((W.drew.setCell ⟨w.heap.size + 1, 0, none⟩ (.int .i64 x.f0)).setCell ⟨w.heap.size + 1, 1, none⟩ (.int .i64 x.f1)).setCell ⟨w.heap.size + 1, 2, none⟩ (.slice none 0 0)).setCell ⟨w.heap.size + 1, 3, none⟩ (.string x.f2)) :=
    (((hb.drew.setCell (p := ⟨w.heap.size + 1, 0, none⟩) (Nat.le_succ _) _).setCell (p := ⟨w.heap.size + 1, 1, none⟩) (Nat.le_succ _) _).setCell (p := ⟨w.heap.size + 1, 2, none⟩) (Nat.le_succ _) _).setCell (p := ⟨w.heap.size + 1, 3, none⟩) (Nat.le_succ _) _
  have HB2 := Lib.hid B2
  have HB3 := Lib.hid B3
  clear B1 B2 B3 hbl s0 s1 s2 s3 g0 g1 g2 g3
  (try simp only [Exit.then])
  apply_assumption
  apply wp_ret
  refine bodyPost_ret (results_cell_row rfl _ _ _ _ _ _ _ rfl HB2.out.out Tryd.underlying33 rfl (by kernel_rfl)) rfl ?_
  exact ⟨rfl, HB3.out⟩
end Go.Proofs.YtojocffjajcdmaaDoor.RF
/- A region of a round that draws its order and whose callees only lay blocks: one walk in the order of the text. -/
namespace Go.Proofs.YtojocffjajcdmaaDoor.RF
open Go Go.RowKit Go.Sort
set_option linter.unusedVariables false
set_option linter.unusedSimpArgs false
variable {F : Fence} {n : Nat} {P : Program} {ops : Array Oper} {C : World → Prop}

def plainOps (l : List Oper) : Bool := l.all fun o => match o.op with | .defer _ => false | _ => true
theorem plainOps_spec {l : List Oper} (h : plainOps l = true) {i : Nat} {o : Oper} (hi : l.toArray[i]? = some o) : ∀ c, o.op ≠ .defer c := by
  intro c hc
  have hm : o ∈ l := List.mem_of_getElem? (by simpa using hi)
  have := List.all_eq_true.1 h o hm
  rw [hc] at this
  cases this

end Go.Proofs.YtojocffjajcdmaaDoor.RF
/- A region of a round that draws its order, where a condition on the world holds behind every operation: what may be taken first. -/
namespace Go.Proofs.YtojocffjajcdmaaDoor.RF
open Go Go.RowKit Go.Sort
set_option linter.unusedVariables false
set_option linter.unusedSimpArgs false
variable {F : Fence} {n : Nat} {P : Program} {ops : Array Oper} {Q : Exit → Act → World → Prop} {md : Region.Mode} {S : World → Prop}

/-- Whatever order is picked; S holds behind every operation. -/
def AnyH (F : Fence) (n : Nat) (P : Program) (md : Region.Mode) (ops : Array Oper) (Q : Exit → Act → World → Prop) (S : World → Prop) : Nat → Array Bool → Act → World → Prop
  | 0, listed, a, w => Region.ready md ops listed = [] ∧ Q .normal a w
  | k + 1, listed, a, w => (Region.ready md ops listed = [] → Q .normal a w) ∧ ∀ i ∈ Region.ready md ops listed, wpOpIn F n P ops Q i (fun a' w' => S w' ∧ AnyH F n P md ops Q S k (listed.setIfInBounds i true) a' w') a w
theorem AnyH.any : ∀ (k : Nat) (listed : Array Bool) (a : Act) (w : World), AnyH F n P md ops Q S k listed a w → wpAnyIn F n P md ops Q k listed a w
  | 0, _, _, _, h => h
  | k + 1, _, _, _, h => ⟨h.1, fun i hi => wpOpIn_mono (fun a' w' h' => AnyH.any k _ a' w' h'.2) (h.2 i hi)⟩

/-- Nothing is asked of whom an operation calls; no operation defers. -/
structure Free (F : Fence) (ops : Array Oper) : Prop where
  fn : ∀ f, F.fn f
  plain : ∀ (i : Nat) (o : Oper), ops[i]? = some o → ∀ c, o.op ≠ .defer c

theorem yieldsIf_op {i : Nat} {o : Oper} {v : Value} {a : Act} (hf : Free F ops) (hi : ops[i]? = some o) (hy : YieldsIf P ops S o v a) {K : Act → World → Prop} {w : World} (hS : S w) (h : K (a.put o.dst v) w) : wpOpIn F n P ops Q i K a w := by
  unfold Go.wpOpIn
  simp only [hi]
  have hab : ∀ f, o.about P w a.eval = some f → F.fn f := fun f _ => hf.fn f
  rcases hy with ⟨hw, hv⟩ | ⟨hw, rfl⟩
  · simp only [hw, if_true, Oper.wpIn, Oper.semAt_plain F _ o (hf.plain i o hi), hv w hS, Oper.uponIn]; exact ⟨hab, h⟩
  · simp only [hw, Bool.false_eq_true, if_false]; exact ⟨hab, h⟩

theorem op_putIf {j : Nat} {oi oj : Oper} {v : Value} (hf : Free F ops) (hj : ops[j]? = some oj) (hap : oi.apart ops oj = true)
    (hsi : ∀ cs b, oi.op ≠ .select cs b) (hsj : ∀ cs b, oj.op ≠ .select cs b)
    (hQ : ∀ c a w, Q (.panic c) (a.put oi.dst v) w → Q (.panic c) a w) {K : Act → World → Prop} {a : Act} {w : World}
    (hy : YieldsIf P ops S oi v a) (h : wpOpIn F n P ops Q j K (a.put oi.dst v) w) :
    wpOpIn F n P ops Q j (fun a' w' => YieldsIf P ops S oi v a' ∧ K (a'.put oi.dst v) w') a w := by
  obtain ⟨h1, h2, h3⟩ := Oper.apart_spec hap
  have keep : ∀ (a : Act), YieldsIf P ops S oi v a → ∀ u, YieldsIf P ops S oi v (a.put oj.dst u) := fun a hy u =>
    hy.of_same (execOp_put oi hsi a oj.dst u h3) (wanted_put oi a oj.dst u h3)
  have keepD : ∀ d, YieldsIf P ops S oi v { a with defers := d :: a.defers } := fun d => hy.of_same rfl rfl
  have hpl := Oper.semAt_plain F a.eval oj (hf.plain j oj hj)
  have hpl2 := Oper.semAt_plain F (a.put oi.dst v).eval oj (hf.plain j oj hj)
  unfold wpOpIn at *
  simp only [hj] at *
  rw [wanted_put oj a oi.dst v h1] at h
  split
  · rename_i hw
    simp only [hw, if_true] at h
    unfold Oper.wpIn at *
    refine ⟨fun f _ => hf.fn f, ?_⟩
    have h := h.2
    rw [hpl2, execOp_put oj hsj a oi.dst v h1] at h
    rw [hpl]
    generalize (execOp a.eval oj).run P w = r at *
    cases r with
    | ok x w' =>
      cases x <;> simp only [Oper.uponIn] at h ⊢
      case value u => exact ⟨keep a hy u, by rw [← Act.put_comm a v u h2]; exact h⟩
      case skip => exact ⟨keep a hy _, by rw [← Act.put_comm a v undef h2]; exact h⟩
      case defer d =>
        refine ⟨keep _ (keepD d) _, ?_⟩
        rw [← Act.put_comm _ v undef h2, ← Act.put_defers]
        exact h
      case enter f args =>
        refine ⟨h.1, CallsIn.mono h.2 fun e w'' he => ?_⟩
        cases e with
        | returned u => exact ⟨keep a hy u, by rw [← Act.put_comm a v u h2]; exact he⟩
        | panicked c => exact hQ _ _ _ he
        | outgrown => exact he
      case row row args => exact ⟨h.1, RowsIn.mono h.2 fun u w'' he => ⟨keep a hy u, by rw [← Act.put_comm a v u h2]; exact he⟩⟩
      case round l f tmps assign body =>
        refine ⟨h.1, RoundIn.mono h.2 fun e w'' he => ?_⟩
        cases e with
        | returned u => exact ⟨keep a hy u, by rw [← Act.put_comm a v u h2]; exact he⟩
        | panicked c => exact hQ _ _ _ he
        | outgrown => exact he
    | halt x w' =>
      cases x <;> simp only [Oper.uponIn] at h ⊢
      case panic u => exact hQ _ _ _ h
  · rename_i hw
    simp only [hw] at h
    exact ⟨fun f _ => hf.fn f, keep a hy _, by rw [← Act.put_comm a v undef h2]; exact h.2⟩

/-- What yields in every world that meets S may be taken first. -/
theorem AnyH.first {i : Nat} {oi : Oper} {v : Value} (hf : Free F ops) (hi : ops[i]? = some oi) (hsel : ∀ (j : Nat) (o : Oper) cs b, ops[j]? = some o → o.op ≠ .select cs b)
    (hQ : ∀ c a w, Q (.panic c) (a.put oi.dst v) w → Q (.panic c) a w) :
    ∀ (k : Nat) (listed : Array Bool) (a : Act) (w : World),
      (∀ j oj, ops[j]? = some oj → j ≠ i → listed.getD j true = false → (∀ e ∈ oj.after, Region.binds md e = true → e.on ≠ i) → oi.apart ops oj = true) →
      i ∈ Region.ready md ops listed → YieldsIf P ops S oi v a → S w →
      AnyH F n P md ops Q S k (listed.setIfInBounds i true) (a.put oi.dst v) w → AnyH F n P md ops Q S (k + 1) listed a w := by
  intro k
  induction k with
  | zero =>
    intro listed a w _ hr hy hS H
    refine ⟨fun h => (by rw [h] at hr; cases hr), fun j hj => ?_⟩
    by_cases hji : j = i
    · subst hji; exact yieldsIf_op hf hi hy hS ⟨hS, H⟩
    · have := ready_mono hj hji
      rw [H.1] at this
      cases this
  | succ k ih =>
    intro listed a w hfree hr hy hS H
    refine ⟨fun h => (by rw [h] at hr; cases hr), fun j hj => ?_⟩
    by_cases hji : j = i
    · subst hji; exact yieldsIf_op hf hi hy hS ⟨hS, H⟩
    · have h1 := H.2 j (ready_mono hj hji)
      obtain ⟨hjun, oj, hoj, hall⟩ := mem_ready.1 hj
      have hnot : ∀ e ∈ oj.after, Region.binds md e = true → e.on ≠ i := fun e he hb heq => by
        have h1 := hall e he hb
        have h0 := (mem_ready.1 hr).1
        rw [heq] at h1
        rcases Nat.lt_or_ge i listed.size with h' | h'
        · simp [h'] at h0 h1; rw [h0] at h1; cases h1
        · simp [Array.getElem?_eq_none h'] at h1
      have h2 := op_putIf hf hoj (hfree j oj hoj hji hjun hnot) (fun cs b => hsel i oi cs b hi) (fun cs b => hsel j oj cs b hoj) hQ hy h1
      have hfree' : ∀ q ok, ops[q]? = some ok → q ≠ i → (listed.setIfInBounds j true).getD q true = false →
          (∀ e ∈ ok.after, Region.binds md e = true → e.on ≠ i) → oi.apart ops ok = true := fun q ok hq hqi hun hno => by
        refine hfree q ok hq hqi ?_ hno
        by_cases hjq : j = q
        · subst hjq; exact hjun
        · rw [getD_set_ne true hjq] at hun; exact hun
      refine wpOpIn_mono (fun a' w' h3 => ⟨h3.2.1, ih (listed.setIfInBounds j true) a' w' hfree' (ready_mono hr (Ne.symm hji)) h3.1 h3.2.1 ?_⟩) h2
      rw [Array.setIfInBounds_comm _ _ hji]
      exact h3.2.2
theorem AnyH.take {i : Nat} {oi : Oper} {v : Value} {k : Nat} {listed : Array Bool} {a : Act} {w : World} (hf : Free F ops) (hi : ops[i]? = some oi)
    (hs : Region.noSelect ops = true) (hfr : Region.free md ops listed i = true) (hr : (Region.ready md ops listed).contains i = true)
    (hQ : ∀ c a w, Q (.panic c) (a.put oi.dst v) w → Q (.panic c) a w) (hS : S w) (hy : YieldsIf P ops S oi v a)
    (h : AnyH F n P md ops Q S k (listed.setIfInBounds i true) (a.put oi.dst v) w) : AnyH F n P md ops Q S (k + 1) listed a w :=
  AnyH.first hf hi (Region.noSelect_spec hs) hQ k listed a w (Region.free_spec hi hfr) (by simpa using hr) hy hS h
theorem AnyH.take' {i : Nat} {d : Option Tmp} {oi : Oper} {v : Value} {k : Nat} {listed : Array Bool} {a : Act} {w : World} (hf : Free F ops) (hi : ops[i]? = some oi) (hd : oi.dst = d)
    (hs : Region.noSelect ops = true) (hfr : Region.free md ops listed i = true) (hr : (Region.ready md ops listed).contains i = true)
    (hQ : ∀ c a w, Q (.panic c) (a.put d v) w → Q (.panic c) a w) (hS : S w) (hy : YieldsIf P ops S oi v a)
    (h : AnyH F n P md ops Q S k (listed.setIfInBounds i true) (a.put d v) w) : AnyH F n P md ops Q S (k + 1) listed a w := by
  subst hd; exact AnyH.take hf hi hs hfr hr hQ hS hy h
/-- Only one may come up. -/
theorem AnyH.one {i : Nat} {oi : Oper} {k : Nat} {listed : Array Bool} {a : Act} {w : World} (hi : ops[i]? = some oi) (hr : Region.ready md ops listed = [i])
    (h : ∀ K : Act → World → Prop, (∀ a' w', S w' → (S w' → AnyH F n P md ops Q S k (listed.setIfInBounds i true) a' w') → K a' w') → if Region.wanted oi (yielded ops a.tmps) = true then Oper.wpIn F n P oi a w K Q else (∀ f, oi.about P w a.eval = some f → F.fn f) ∧ K (a.put oi.dst undef) w) : AnyH F n P md ops Q S (k + 1) listed a w := by
  refine ⟨fun h0 => (by rw [hr] at h0; cases h0), fun j hj => ?_⟩
  rw [hr] at hj
  obtain rfl : j = i := by simpa using hj
  exact wpOpIn_step hi (fun K' hK => h K' (fun a' w' hS hW => hK a' w' ⟨hS, hW hS⟩))
/-- Two may come up. -/
theorem AnyH.two {i j : Nat} {k : Nat} {listed : Array Bool} {a : Act} {w : World} (hr : Region.ready md ops listed = [i, j])
    (h1 : wpOpIn F n P ops Q i (fun a' w' => S w' ∧ AnyH F n P md ops Q S k (listed.setIfInBounds i true) a' w') a w) (h2 : wpOpIn F n P ops Q j (fun a' w' => S w' ∧ AnyH F n P md ops Q S k (listed.setIfInBounds j true) a' w') a w) : AnyH F n P md ops Q S (k + 1) listed a w := by
  refine ⟨fun h0 => (by rw [hr] at h0; cases h0), fun q hq => ?_⟩
  rw [hr] at hq
  simp at hq
  rcases hq with rfl | rfl
  · exact h1
  · exact h2
theorem AnyH.done {listed : Array Bool} {a : Act} {w : World} (hr : Region.ready md ops listed = []) (h : Q .normal a w) : ∀ k, AnyH F n P md ops Q S k listed a w
  | 0 => ⟨hr, h⟩
  | _ + 1 => ⟨fun _ => h, by rw [hr]; simp⟩
theorem region_held_r {id : Nat} {a : Act} {w : World} {l : List Oper} (hm : P.follows .mixedOrders = true) (h : AnyH F n P .any l.toArray Q S l.length (Array.replicate l.length false) a w.drew) : (Code.region id l.toArray true).wpIn F n P Q a w :=
  wpIn_region_any hm (by simpa using AnyH.any _ _ _ _ h)
end Go.Proofs.YtojocffjajcdmaaDoor.RF
/- chunk.Right: the test of a round. -/
namespace Go.Proofs.YtojocffjajcdmaaDoor.RF
open Go Go.RowKit Go.Shelf Go.Sort Go.Proofs.YtojocffjajcdmaaDoor Go.Proofs.YtojocffjajcdmaaDoorW.PrintWords Go.Proofs.YtojocffjajcdmaaDoorW.PrintLast Go.Proofs.YtojocffjajcdmaaDoorW.PrintMore PChunkAll
set_option linter.unusedVariables false
set_option linter.unusedSimpArgs false
attribute [local go_sem] Oper.semAt_some

abbrev chV (A1 : Option Addr) (n1 c1 : Nat) (A2 : Option Addr) (n2 c2 : Nat) : Value := .agg #[.slice A1 n1 c1, .slice A2 n2 c2]
def firstRF : Code → Option (Code × Code)
  | .rangeFunc _ _ a b => some (a, b)
  | .loop c => firstRF c
  | .seq a b => match firstRF a with
    | some c => some c
    | none => firstRF b
  | .block _ c => firstRF c
  | .scope c => firstRF c
  | .cond _ a b => match firstRF a with
    | some c => some c
    | none => firstRF b
  | _ => none
def unblock : Code → Code
  | .block _ c => c
  | c => c
def lefts : Code → Code
  | .seq a _ => a
  | c => c
/-- The test of a round. -/
noncomputable def rightTest : Code := lefts (lefts (unblock (((Tryd.f57.body.bind firstRF).getD (.skip, .skip)).2)))

set_option maxHeartbeats 600000 in
set_option maxRecDepth 100000 in
theorem test_met (l n : Nat) (A1 : Option Addr) (n1 c1 : Nat) (A2 : Option Addr) (n2 c2 : Nat) (cB sB mB wB rB mb : Nat) (W : World) (x y : S71) (h3 : W.cell? ⟨mB, 0, none⟩ = some (.map (some mb))) (r0 : W.cell? ⟨rB, 0, none⟩ = some (.int .i64 x.f0)) (hlook : ∀ w', Below W.heap.size W w' → (Instr.lookup 96 (.map (some mb)) (.int .i64 x.f0) false).run Tryd.prog w' = .ok (.bool true) w')
    (Q : Exit → Act → World → Prop) (hQp : ∀ c a w, ¬ Q (.panic c) a w) (u6 u7 u8 u9 u10 u11 u12 u13 u14 u15 u16 u17 u18 u19 u20 u21 u22 u23 u24 u25 u26 u27 u28 u29 u30 u31 u32 u33 u34 u35 u36 u37 u38 u39 u40 u41 u42 u43 : Value)
    (hQ : ∀ (v12 v13 v14 v15 v16 v17 v18 v19 v20 v21 v22 v23 v24 v25 v26 v27 v28 v29 : Value) (W' : World), Below W.heap.size W W' → Q .normal ⟨#[chV A1 n1 c1 A2 n2 c2, .pointer (some ⟨cB, 0, none⟩), .pointer (some ⟨sB, 0, none⟩), .pointer (some ⟨mB, 0, none⟩), .pointer (some ⟨wB, 0, none⟩), .pointer (some ⟨rB, 0, none⟩), u6, u7, u8, u9, u10, u11, v12, v13, v14, v15, v16, v17, v18, v19, v20, v21, v22, v23, v24, v25, v26, v27, v28, v29, .bool true, u31, u32, u33, u34, u35, u36, u37, u38, u39, u40, u41, u42, u43], []⟩ W') :
    rightTest.wpIn (Fence.wide.inRound l) n Tryd.prog Q ⟨#[chV A1 n1 c1 A2 n2 c2, .pointer (some ⟨cB, 0, none⟩), .pointer (some ⟨sB, 0, none⟩), .pointer (some ⟨mB, 0, none⟩), .pointer (some ⟨wB, 0, none⟩), .pointer (some ⟨rB, 0, none⟩), u6, u7, u8, u9, u10, u11, u12, u13, u14, u15, u16, u17, u18, u19, u20, u21, u22, u23, u24, u25, u26, u27, u28, u29, u30, u31, u32, u33, u34, u35, u36, u37, u38, u39, u40, u41, u42, u43], []⟩ W := by
  conv => arg 4; whnf
  refine region_held_r (S := fun w' => Below W.heap.size W w') (by kernel_rfl) ?_
  have hb0 : Below W.heap.size W W.drew := (Below.refl _ _).drew
  -- 0
  refine AnyH.take' (i := 0) (d := some 12) ⟨fun _ => trivial, fun i o hi => plainOps_spec (by kernel_rfl) hi⟩ rfl (by kernel_rfl) (by kernel_rfl) (by kernel_rfl) (by kernel_rfl) (fun c a w h => absurd h (hQp c _ w)) hb0 (v := ?v0) (Or.inl ⟨by first | (go_simp; done) | rfl, fun w' hw' => ?y0⟩) ?_
  case y0 => have z0 := pw_cell_below hw' h3; go_simp; (try rfl)
  simp only [Act.put, List.setIfInBounds_toArray, List.set_cons_zero, List.set_cons_succ]
  -- 1
  refine AnyH.take' (i := 1) (d := some 13) ⟨fun _ => trivial, fun i o hi => plainOps_spec (by kernel_rfl) hi⟩ rfl (by kernel_rfl) (by kernel_rfl) (by kernel_rfl) (by kernel_rfl) (fun c a w h => absurd h (hQp c _ w)) hb0 (v := ?v1) (Or.inl ⟨by first | (go_simp; done) | rfl, fun w' hw' => ?y1⟩) ?_
  case y1 => go_simp; (try rfl)
  simp only [Act.put, List.setIfInBounds_toArray, List.set_cons_zero, List.set_cons_succ]
  -- 2
  refine AnyH.take' (i := 2) (d := some 14) ⟨fun _ => trivial, fun i o hi => plainOps_spec (by kernel_rfl) hi⟩ rfl (by kernel_rfl) (by kernel_rfl) (by kernel_rfl) (by kernel_rfl) (fun c a w h => absurd h (hQp c _ w)) hb0 (v := ?v2) (Or.inl ⟨by first | (go_simp; done) | rfl, fun w' hw' => ?y2⟩) ?_
  case y2 => have z0 := pw_cell_below hw' r0; go_simp; (try rfl)
  simp only [Act.put, List.setIfInBounds_toArray, List.set_cons_zero, List.set_cons_succ]
  -- 3
  refine AnyH.take' (i := 3) (d := some 15) ⟨fun _ => trivial, fun i o hi => plainOps_spec (by kernel_rfl) hi⟩ rfl (by kernel_rfl) (by kernel_rfl) (by kernel_rfl) (by kernel_rfl) (fun c a w h => absurd h (hQp c _ w)) hb0 (v := ?v3) (Or.inl ⟨by first | (go_simp; done) | rfl, fun w' hw' => ?y3⟩) ?_
  case y3 => have z0 := hlook w' hw'; go_simp; (try rfl)
  simp only [Act.put, List.setIfInBounds_toArray, List.set_cons_zero, List.set_cons_succ]
  -- 4
  refine AnyH.take' (i := 4) (d := some 16) ⟨fun _ => trivial, fun i o hi => plainOps_spec (by kernel_rfl) hi⟩ rfl (by kernel_rfl) (by kernel_rfl) (by kernel_rfl) (by kernel_rfl) (fun c a w h => absurd h (hQp c _ w)) hb0 (v := ?v4) (Or.inl ⟨by first | (go_simp; done) | rfl, fun w' hw' => ?y4⟩) ?_
  case y4 => go_simp; (try rfl)
  simp only [Act.put, List.setIfInBounds_toArray, List.set_cons_zero, List.set_cons_succ]
  refine AnyH.take' (i := 5) (d := some 17) ⟨fun _ => trivial, fun i o hi => plainOps_spec (by kernel_rfl) hi⟩ rfl (by kernel_rfl) (by kernel_rfl) (by kernel_rfl) (by kernel_rfl) (fun c a w h => absurd h (hQp c _ w)) hb0 (Or.inr ⟨by first | (go_simp; done) | rfl, rfl⟩) ?_
  simp only [Act.put, List.setIfInBounds_toArray, List.set_cons_zero, List.set_cons_succ]
  refine AnyH.take' (i := 6) (d := some 18) ⟨fun _ => trivial, fun i o hi => plainOps_spec (by kernel_rfl) hi⟩ rfl (by kernel_rfl) (by kernel_rfl) (by kernel_rfl) (by kernel_rfl) (fun c a w h => absurd h (hQp c _ w)) hb0 (Or.inr ⟨by first | (go_simp; done) | rfl, rfl⟩) ?_
  simp only [Act.put, List.setIfInBounds_toArray, List.set_cons_zero, List.set_cons_succ]
  refine AnyH.take' (i := 7) (d := some 19) ⟨fun _ => trivial, fun i o hi => plainOps_spec (by kernel_rfl) hi⟩ rfl (by kernel_rfl) (by kernel_rfl) (by kernel_rfl) (by kernel_rfl) (fun c a w h => absurd h (hQp c _ w)) hb0 (Or.inr ⟨by first | (go_simp; done) | rfl, rfl⟩) ?_
  simp only [Act.put, List.setIfInBounds_toArray, List.set_cons_zero, List.set_cons_succ]
  refine AnyH.take' (i := 8) (d := some 20) ⟨fun _ => trivial, fun i o hi => plainOps_spec (by kernel_rfl) hi⟩ rfl (by kernel_rfl) (by kernel_rfl) (by kernel_rfl) (by kernel_rfl) (fun c a w h => absurd h (hQp c _ w)) hb0 (Or.inr ⟨by first | (go_simp; done) | rfl, rfl⟩) ?_
  simp only [Act.put, List.setIfInBounds_toArray, List.set_cons_zero, List.set_cons_succ]
  refine AnyH.take' (i := 9) (d := some 21) ⟨fun _ => trivial, fun i o hi => plainOps_spec (by kernel_rfl) hi⟩ rfl (by kernel_rfl) (by kernel_rfl) (by kernel_rfl) (by kernel_rfl) (fun c a w h => absurd h (hQp c _ w)) hb0 (Or.inr ⟨by first | (go_simp; done) | rfl, rfl⟩) ?_
  simp only [Act.put, List.setIfInBounds_toArray, List.set_cons_zero, List.set_cons_succ]
  refine AnyH.take' (i := 10) (d := some 22) ⟨fun _ => trivial, fun i o hi => plainOps_spec (by kernel_rfl) hi⟩ rfl (by kernel_rfl) (by kernel_rfl) (by kernel_rfl) (by kernel_rfl) (fun c a w h => absurd h (hQp c _ w)) hb0 (Or.inr ⟨by first | (go_simp; done) | rfl, rfl⟩) ?_
  simp only [Act.put, List.setIfInBounds_toArray, List.set_cons_zero, List.set_cons_succ]
  -- 11
  refine AnyH.take' (i := 11) (d := some 23) ⟨fun _ => trivial, fun i o hi => plainOps_spec (by kernel_rfl) hi⟩ rfl (by kernel_rfl) (by kernel_rfl) (by kernel_rfl) (by kernel_rfl) (fun c a w h => absurd h (hQp c _ w)) hb0 (v := ?v11) (Or.inl ⟨by first | (go_simp; done) | rfl, fun w' hw' => ?y11⟩) ?_
  case y11 => go_simp; (try rfl)
  simp only [Act.put, List.setIfInBounds_toArray, List.set_cons_zero, List.set_cons_succ]
  -- 12
  refine AnyH.take' (i := 12) (d := some 24) ⟨fun _ => trivial, fun i o hi => plainOps_spec (by kernel_rfl) hi⟩ rfl (by kernel_rfl) (by kernel_rfl) (by kernel_rfl) (by kernel_rfl) (fun c a w h => absurd h (hQp c _ w)) hb0 (v := ?v12) (Or.inl ⟨by first | (go_simp; done) | rfl, fun w' hw' => ?y12⟩) ?_
  case y12 => go_simp; (try rfl)
  simp only [Act.put, List.setIfInBounds_toArray, List.set_cons_zero, List.set_cons_succ]
  refine AnyH.take' (i := 13) (d := some 25) ⟨fun _ => trivial, fun i o hi => plainOps_spec (by kernel_rfl) hi⟩ rfl (by kernel_rfl) (by kernel_rfl) (by kernel_rfl) (by kernel_rfl) (fun c a w h => absurd h (hQp c _ w)) hb0 (Or.inr ⟨by first | (go_simp; done) | rfl, rfl⟩) ?_
  simp only [Act.put, List.setIfInBounds_toArray, List.set_cons_zero, List.set_cons_succ]
  refine AnyH.take' (i := 14) (d := some 26) ⟨fun _ => trivial, fun i o hi => plainOps_spec (by kernel_rfl) hi⟩ rfl (by kernel_rfl) (by kernel_rfl) (by kernel_rfl) (by kernel_rfl) (fun c a w h => absurd h (hQp c _ w)) hb0 (Or.inr ⟨by first | (go_simp; done) | rfl, rfl⟩) ?_
  simp only [Act.put, List.setIfInBounds_toArray, List.set_cons_zero, List.set_cons_succ]
  refine AnyH.take' (i := 15) (d := some 27) ⟨fun _ => trivial, fun i o hi => plainOps_spec (by kernel_rfl) hi⟩ rfl (by kernel_rfl) (by kernel_rfl) (by kernel_rfl) (by kernel_rfl) (fun c a w h => absurd h (hQp c _ w)) hb0 (Or.inr ⟨by first | (go_simp; done) | rfl, rfl⟩) ?_
  simp only [Act.put, List.setIfInBounds_toArray, List.set_cons_zero, List.set_cons_succ]
  refine AnyH.take' (i := 16) (d := some 28) ⟨fun _ => trivial, fun i o hi => plainOps_spec (by kernel_rfl) hi⟩ rfl (by kernel_rfl) (by kernel_rfl) (by kernel_rfl) (by kernel_rfl) (fun c a w h => absurd h (hQp c _ w)) hb0 (Or.inr ⟨by first | (go_simp; done) | rfl, rfl⟩) ?_
  simp only [Act.put, List.setIfInBounds_toArray, List.set_cons_zero, List.set_cons_succ]
  refine AnyH.take' (i := 17) (d := some 29) ⟨fun _ => trivial, fun i o hi => plainOps_spec (by kernel_rfl) hi⟩ rfl (by kernel_rfl) (by kernel_rfl) (by kernel_rfl) (by kernel_rfl) (fun c a w h => absurd h (hQp c _ w)) hb0 (Or.inr ⟨by first | (go_simp; done) | rfl, rfl⟩) ?_
  simp only [Act.put, List.setIfInBounds_toArray, List.set_cons_zero, List.set_cons_succ]
  -- 18
  refine AnyH.take' (i := 18) (d := some 30) ⟨fun _ => trivial, fun i o hi => plainOps_spec (by kernel_rfl) hi⟩ rfl (by kernel_rfl) (by kernel_rfl) (by kernel_rfl) (by kernel_rfl) (fun c a w h => absurd h (hQp c _ w)) hb0 (v := ?v18) (Or.inl ⟨by first | (go_simp; done) | rfl, fun w' hw' => ?y18⟩) ?_
  case y18 => go_simp; (try rfl)
  simp only [Act.put, List.setIfInBounds_toArray, List.set_cons_zero, List.set_cons_succ]
  exact AnyH.done (by kernel_rfl) (hQ _ _ _ _ _ _ _ _ _ _ _ _ _ _ _ _ _ _ _ hb0) _

set_option maxHeartbeats 600000 in
set_option maxRecDepth 100000 in
theorem test_wrong (l n : Nat) (A1 : Option Addr) (n1 c1 : Nat) (A2 : Option Addr) (n2 c2 : Nat) (cB sB mB wB rB mb : Nat) (W : World) (x y : S71) (h3 : W.cell? ⟨mB, 0, none⟩ = some (.map (some mb))) (r0 : W.cell? ⟨rB, 0, none⟩ = some (.int .i64 x.f0)) (r1 : W.cell? ⟨rB, 1, none⟩ = some (.int .i64 x.f1)) (r2 : W.cell? ⟨rB, 2, none⟩ = some (.string x.f2)) (k0 : W.cell? ⟨cB, 0, none⟩ = some (.slice A1 n1 c1))
    (hlook : ∀ w', Below W.heap.size W w' → (Instr.lookup 96 (.map (some mb)) (.int .i64 x.f0) false).run Tryd.prog w' = .ok (.bool false) w') (ls : List S112) (hn1 : n1 = ls.length) (hls : ls.length < 4398046511104) (hT : Tabs W) (hL : Kd.C k112 W A1 ls.length ls) (hR : rightE ⟨x.f0, x.f1, ls, x.f2⟩ = false)
    (Q : Exit → Act → World → Prop) (hQp : ∀ c a w, ¬ Q (.panic c) a w) (u6 u7 u8 u9 u10 u11 u12 u13 u14 u15 u16 u17 u18 u19 u20 u21 u22 u23 u24 u25 u26 u27 u28 u29 u30 u31 u32 u33 u34 u35 u36 u37 u38 u39 u40 u41 u42 u43 : Value)
    (hQ : ∀ (v12 v13 v14 v15 v16 v17 v18 v19 v20 v21 v22 v23 v24 v25 v26 v27 v28 v29 : Value) (W' : World), Below W.heap.size W W' → Q .normal ⟨#[chV A1 n1 c1 A2 n2 c2, .pointer (some ⟨cB, 0, none⟩), .pointer (some ⟨sB, 0, none⟩), .pointer (some ⟨mB, 0, none⟩), .pointer (some ⟨wB, 0, none⟩), .pointer (some ⟨rB, 0, none⟩), u6, u7, u8, u9, u10, u11, v12, v13, v14, v15, v16, v17, v18, v19, v20, v21, v22, v23, v24, v25, v26, v27, v28, v29, .bool true, u31, u32, u33, u34, u35, u36, u37, u38, u39, u40, u41, u42, u43], []⟩ W') :
    rightTest.wpIn (Fence.wide.inRound l) n Tryd.prog Q ⟨#[chV A1 n1 c1 A2 n2 c2, .pointer (some ⟨cB, 0, none⟩), .pointer (some ⟨sB, 0, none⟩), .pointer (some ⟨mB, 0, none⟩), .pointer (some ⟨wB, 0, none⟩), .pointer (some ⟨rB, 0, none⟩), u6, u7, u8, u9, u10, u11, u12, u13, u14, u15, u16, u17, u18, u19, u20, u21, u22, u23, u24, u25, u26, u27, u28, u29, u30, u31, u32, u33, u34, u35, u36, u37, u38, u39, u40, u41, u42, u43], []⟩ W := by
  conv => arg 4; whnf
  refine region_held_r (S := fun w' => Below W.heap.size W w') (by kernel_rfl) ?_
  have hb0 : Below W.heap.size W W.drew := (Below.refl _ _).drew
  subst hn1
  -- 0
  refine AnyH.take' (i := 0) (d := some 12) ⟨fun _ => trivial, fun i o hi => plainOps_spec (by kernel_rfl) hi⟩ rfl (by kernel_rfl) (by kernel_rfl) (by kernel_rfl) (by kernel_rfl) (fun c a w h => absurd h (hQp c _ w)) hb0 (v := ?v0) (Or.inl ⟨by first | (go_simp; done) | rfl, fun w' hw' => ?y0⟩) ?_
  case y0 => have z0 := pw_cell_below hw' h3; go_simp; (try rfl)
  simp only [Act.put, List.setIfInBounds_toArray, List.set_cons_zero, List.set_cons_succ]
  -- 1
  refine AnyH.take' (i := 1) (d := some 13) ⟨fun _ => trivial, fun i o hi => plainOps_spec (by kernel_rfl) hi⟩ rfl (by kernel_rfl) (by kernel_rfl) (by kernel_rfl) (by kernel_rfl) (fun c a w h => absurd h (hQp c _ w)) hb0 (v := ?v1) (Or.inl ⟨by first | (go_simp; done) | rfl, fun w' hw' => ?y1⟩) ?_
  case y1 => go_simp; (try rfl)
  simp only [Act.put, List.setIfInBounds_toArray, List.set_cons_zero, List.set_cons_succ]
  -- 2
  refine AnyH.take' (i := 2) (d := some 14) ⟨fun _ => trivial, fun i o hi => plainOps_spec (by kernel_rfl) hi⟩ rfl (by kernel_rfl) (by kernel_rfl) (by kernel_rfl) (by kernel_rfl) (fun c a w h => absurd h (hQp c _ w)) hb0 (v := ?v2) (Or.inl ⟨by first | (go_simp; done) | rfl, fun w' hw' => ?y2⟩) ?_
  case y2 => have z0 := pw_cell_below hw' r0; go_simp; (try rfl)
  simp only [Act.put, List.setIfInBounds_toArray, List.set_cons_zero, List.set_cons_succ]
  -- 3
  refine AnyH.take' (i := 3) (d := some 15) ⟨fun _ => trivial, fun i o hi => plainOps_spec (by kernel_rfl) hi⟩ rfl (by kernel_rfl) (by kernel_rfl) (by kernel_rfl) (by kernel_rfl) (fun c a w h => absurd h (hQp c _ w)) hb0 (v := ?v3) (Or.inl ⟨by first | (go_simp; done) | rfl, fun w' hw' => ?y3⟩) ?_
  case y3 => have z0 := hlook w' hw'; go_simp; (try rfl)
  simp only [Act.put, List.setIfInBounds_toArray, List.set_cons_zero, List.set_cons_succ]
  -- 4
  refine AnyH.take' (i := 4) (d := some 16) ⟨fun _ => trivial, fun i o hi => plainOps_spec (by kernel_rfl) hi⟩ rfl (by kernel_rfl) (by kernel_rfl) (by kernel_rfl) (by kernel_rfl) (fun c a w h => absurd h (hQp c _ w)) hb0 (v := ?v4) (Or.inl ⟨by first | (go_simp; done) | rfl, fun w' hw' => ?y4⟩) ?_
  case y4 => go_simp; (try rfl)
  simp only [Act.put, List.setIfInBounds_toArray, List.set_cons_zero, List.set_cons_succ]
  -- 5
  refine AnyH.take' (i := 5) (d := some 17) ⟨fun _ => trivial, fun i o hi => plainOps_spec (by kernel_rfl) hi⟩ rfl (by kernel_rfl) (by kernel_rfl) (by kernel_rfl) (by kernel_rfl) (fun c a w h => absurd h (hQp c _ w)) hb0 (v := ?v5) (Or.inl ⟨by first | (go_simp; done) | rfl, fun w' hw' => ?y5⟩) ?_
  case y5 => have z0 := pw_cell_below hw' r0; have z1 := pw_cell_below hw' r1; have z2 := pw_cell_below hw' r2; go_simp; (try rfl)
  simp only [Act.put, List.setIfInBounds_toArray, List.set_cons_zero, List.set_cons_succ]
  -- 6
  refine AnyH.take' (i := 6) (d := some 18) ⟨fun _ => trivial, fun i o hi => plainOps_spec (by kernel_rfl) hi⟩ rfl (by kernel_rfl) (by kernel_rfl) (by kernel_rfl) (by kernel_rfl) (fun c a w h => absurd h (hQp c _ w)) hb0 (v := ?v6) (Or.inl ⟨by first | (go_simp; done) | rfl, fun w' hw' => ?y6⟩) ?_
  case y6 => go_simp; (try rfl)
  simp only [Act.put, List.setIfInBounds_toArray, List.set_cons_zero, List.set_cons_succ]
  -- 7
  refine AnyH.take' (i := 7) (d := some 19) ⟨fun _ => trivial, fun i o hi => plainOps_spec (by kernel_rfl) hi⟩ rfl (by kernel_rfl) (by kernel_rfl) (by kernel_rfl) (by kernel_rfl) (fun c a w h => absurd h (hQp c _ w)) hb0 (v := ?v7) (Or.inl ⟨by first | (go_simp; done) | rfl, fun w' hw' => ?y7⟩) ?_
  case y7 => have z0 := pw_cell_below hw' k0; go_simp; (try rfl)
  simp only [Act.put, List.setIfInBounds_toArray, List.set_cons_zero, List.set_cons_succ]
  refine AnyH.one (i := 8) rfl (by kernel_rfl) ?_
  intro K hK
  go_simp
  refine ⟨trivial, fun h => (by cases h), CallsIn.inRound l (callsIn_wide.2 ((entry_any x A1 c1 ls _ (Kd.C_below hL hb0) hls).mono ?_))⟩
  rintro e w2 ⟨A3, c3, rfl, hc3, hC3, hb3⟩
  dsimp only
  have hb1 := below_step hb0 hb3
  refine hK _ _ hb1 fun _ => ?_
  clear hK
  refine AnyH.one (i := 9) rfl (by kernel_rfl) ?_
  intro K hK
  go_simp
  refine ⟨trivial, fun h => (by cases h), CallsIn.inRound l (callsIn_wide.2 ((rightE_any ⟨x.f0, x.f1, ls, x.f2⟩ A3 c3 w2 (hT.below hb1) hC3).mono ?_))⟩
  rintro e w3 ⟨rfl, hb4⟩
  dsimp only
  have hb2 := below_step hb1 hb4
  refine hK _ _ hb2 fun _ => ?_
  rw [hR]
  clear hK
  -- 10
  refine AnyH.take' (i := 10) (d := some 22) ⟨fun _ => trivial, fun i o hi => plainOps_spec (by kernel_rfl) hi⟩ rfl (by kernel_rfl) (by kernel_rfl) (by kernel_rfl) (by kernel_rfl) (fun c a w h => absurd h (hQp c _ w)) hb2 (v := ?v10) (Or.inl ⟨by first | (go_simp; done) | rfl, fun w' hw' => ?y10⟩) ?_
  case y10 => go_simp; (try rfl)
  simp only [Act.put, List.setIfInBounds_toArray, List.set_cons_zero, List.set_cons_succ]
  -- 11
  refine AnyH.take' (i := 11) (d := some 23) ⟨fun _ => trivial, fun i o hi => plainOps_spec (by kernel_rfl) hi⟩ rfl (by kernel_rfl) (by kernel_rfl) (by kernel_rfl) (by kernel_rfl) (fun c a w h => absurd h (hQp c _ w)) hb2 (v := ?v11) (Or.inl ⟨by first | (go_simp; done) | rfl, fun w' hw' => ?y11⟩) ?_
  case y11 => go_simp; (try rfl)
  simp only [Act.put, List.setIfInBounds_toArray, List.set_cons_zero, List.set_cons_succ]
  -- 12
  refine AnyH.take' (i := 12) (d := some 24) ⟨fun _ => trivial, fun i o hi => plainOps_spec (by kernel_rfl) hi⟩ rfl (by kernel_rfl) (by kernel_rfl) (by kernel_rfl) (by kernel_rfl) (fun c a w h => absurd h (hQp c _ w)) hb2 (v := ?v12) (Or.inl ⟨by first | (go_simp; done) | rfl, fun w' hw' => ?y12⟩) ?_
  case y12 => go_simp; (try rfl)
  simp only [Act.put, List.setIfInBounds_toArray, List.set_cons_zero, List.set_cons_succ]
  refine AnyH.take' (i := 13) (d := some 25) ⟨fun _ => trivial, fun i o hi => plainOps_spec (by kernel_rfl) hi⟩ rfl (by kernel_rfl) (by kernel_rfl) (by kernel_rfl) (by kernel_rfl) (fun c a w h => absurd h (hQp c _ w)) hb2 (Or.inr ⟨by first | (go_simp; done) | rfl, rfl⟩) ?_
  simp only [Act.put, List.setIfInBounds_toArray, List.set_cons_zero, List.set_cons_succ]
  refine AnyH.take' (i := 14) (d := some 26) ⟨fun _ => trivial, fun i o hi => plainOps_spec (by kernel_rfl) hi⟩ rfl (by kernel_rfl) (by kernel_rfl) (by kernel_rfl) (by kernel_rfl) (fun c a w h => absurd h (hQp c _ w)) hb2 (Or.inr ⟨by first | (go_simp; done) | rfl, rfl⟩) ?_
  simp only [Act.put, List.setIfInBounds_toArray, List.set_cons_zero, List.set_cons_succ]
  refine AnyH.take' (i := 15) (d := some 27) ⟨fun _ => trivial, fun i o hi => plainOps_spec (by kernel_rfl) hi⟩ rfl (by kernel_rfl) (by kernel_rfl) (by kernel_rfl) (by kernel_rfl) (fun c a w h => absurd h (hQp c _ w)) hb2 (Or.inr ⟨by first | (go_simp; done) | rfl, rfl⟩) ?_
  simp only [Act.put, List.setIfInBounds_toArray, List.set_cons_zero, List.set_cons_succ]
  refine AnyH.take' (i := 16) (d := some 28) ⟨fun _ => trivial, fun i o hi => plainOps_spec (by kernel_rfl) hi⟩ rfl (by kernel_rfl) (by kernel_rfl) (by kernel_rfl) (by kernel_rfl) (fun c a w h => absurd h (hQp c _ w)) hb2 (Or.inr ⟨by first | (go_simp; done) | rfl, rfl⟩) ?_
  simp only [Act.put, List.setIfInBounds_toArray, List.set_cons_zero, List.set_cons_succ]
  refine AnyH.take' (i := 17) (d := some 29) ⟨fun _ => trivial, fun i o hi => plainOps_spec (by kernel_rfl) hi⟩ rfl (by kernel_rfl) (by kernel_rfl) (by kernel_rfl) (by kernel_rfl) (fun c a w h => absurd h (hQp c _ w)) hb2 (Or.inr ⟨by first | (go_simp; done) | rfl, rfl⟩) ?_
  simp only [Act.put, List.setIfInBounds_toArray, List.set_cons_zero, List.set_cons_succ]
  -- 18
  refine AnyH.take' (i := 18) (d := some 30) ⟨fun _ => trivial, fun i o hi => plainOps_spec (by kernel_rfl) hi⟩ rfl (by kernel_rfl) (by kernel_rfl) (by kernel_rfl) (by kernel_rfl) (fun c a w h => absurd h (hQp c _ w)) hb2 (v := ?v18) (Or.inl ⟨by first | (go_simp; done) | rfl, fun w' hw' => ?y18⟩) ?_
  case y18 => go_simp; (try rfl)
  simp only [Act.put, List.setIfInBounds_toArray, List.set_cons_zero, List.set_cons_succ]
  exact AnyH.done (by kernel_rfl) (hQ _ _ _ _ _ _ _ _ _ _ _ _ _ _ _ _ _ _ _ hb2) _

set_option maxHeartbeats 600000 in
set_option maxRecDepth 100000 in
theorem test_fine (l n : Nat) (A1 : Option Addr) (n1 c1 : Nat) (A2 : Option Addr) (n2 c2 : Nat) (cB sB mB wB rB mb : Nat) (W : World) (x y : S71) (h3 : W.cell? ⟨mB, 0, none⟩ = some (.map (some mb))) (r0 : W.cell? ⟨rB, 0, none⟩ = some (.int .i64 x.f0)) (r1 : W.cell? ⟨rB, 1, none⟩ = some (.int .i64 x.f1)) (r2 : W.cell? ⟨rB, 2, none⟩ = some (.string x.f2)) (k0 : W.cell? ⟨cB, 0, none⟩ = some (.slice A1 n1 c1))
    (hlook : ∀ w', Below W.heap.size W w' → (Instr.lookup 96 (.map (some mb)) (.int .i64 x.f0) false).run Tryd.prog w' = .ok (.bool false) w') (ls : List S112) (hn1 : n1 = ls.length) (hls : ls.length < 4398046511104) (hT : Tabs W) (hL : Kd.C k112 W A1 ls.length ls) (hR : rightE ⟨x.f0, x.f1, ls, x.f2⟩ = true) (s0 : W.cell? ⟨wB, 0, none⟩ = some (.int .i64 y.f0)) (s1 : W.cell? ⟨wB, 1, none⟩ = some (.int .i64 y.f1)) (s2 : W.cell? ⟨wB, 2, none⟩ = some (.string y.f2))
    (Q : Exit → Act → World → Prop) (hQp : ∀ c a w, ¬ Q (.panic c) a w) (u6 u7 u8 u9 u10 u11 u12 u13 u14 u15 u16 u17 u18 u19 u20 u21 u22 u23 u24 u25 u26 u27 u28 u29 u30 u31 u32 u33 u34 u35 u36 u37 u38 u39 u40 u41 u42 u43 : Value)
    (hQ : ∀ (v12 v13 v14 v15 v16 v17 v18 v19 v20 v21 v22 v23 v24 v25 v26 v27 v28 v29 : Value) (W' : World), Below W.heap.size W W' → Q .normal ⟨#[chV A1 n1 c1 A2 n2 c2, .pointer (some ⟨cB, 0, none⟩), .pointer (some ⟨sB, 0, none⟩), .pointer (some ⟨mB, 0, none⟩), .pointer (some ⟨wB, 0, none⟩), .pointer (some ⟨rB, 0, none⟩), u6, u7, u8, u9, u10, u11, v12, v13, v14, v15, v16, v17, v18, v19, v20, v21, v22, v23, v24, v25, v26, v27, v28, v29, .bool (beforeE x.f0 x.f1 y.f0 y.f1), u31, u32, u33, u34, u35, u36, u37, u38, u39, u40, u41, u42, u43], []⟩ W') :
    rightTest.wpIn (Fence.wide.inRound l) n Tryd.prog Q ⟨#[chV A1 n1 c1 A2 n2 c2, .pointer (some ⟨cB, 0, none⟩), .pointer (some ⟨sB, 0, none⟩), .pointer (some ⟨mB, 0, none⟩), .pointer (some ⟨wB, 0, none⟩), .pointer (some ⟨rB, 0, none⟩), u6, u7, u8, u9, u10, u11, u12, u13, u14, u15, u16, u17, u18, u19, u20, u21, u22, u23, u24, u25, u26, u27, u28, u29, u30, u31, u32, u33, u34, u35, u36, u37, u38, u39, u40, u41, u42, u43], []⟩ W := by
  conv => arg 4; whnf
  refine region_held_r (S := fun w' => Below W.heap.size W w') (by kernel_rfl) ?_
  have hb0 : Below W.heap.size W W.drew := (Below.refl _ _).drew
  subst hn1
  -- 0
  refine AnyH.take' (i := 0) (d := some 12) ⟨fun _ => trivial, fun i o hi => plainOps_spec (by kernel_rfl) hi⟩ rfl (by kernel_rfl) (by kernel_rfl) (by kernel_rfl) (by kernel_rfl) (fun c a w h => absurd h (hQp c _ w)) hb0 (v := ?v0) (Or.inl ⟨by first | (go_simp; done) | rfl, fun w' hw' => ?y0⟩) ?_
  case y0 => have z0 := pw_cell_below hw' h3; go_simp; (try rfl)
  simp only [Act.put, List.setIfInBounds_toArray, List.set_cons_zero, List.set_cons_succ]
  -- 1
  refine AnyH.take' (i := 1) (d := some 13) ⟨fun _ => trivial, fun i o hi => plainOps_spec (by kernel_rfl) hi⟩ rfl (by kernel_rfl) (by kernel_rfl) (by kernel_rfl) (by kernel_rfl) (fun c a w h => absurd h (hQp c _ w)) hb0 (v := ?v1) (Or.inl ⟨by first | (go_simp; done) | rfl, fun w' hw' => ?y1⟩) ?_
  case y1 => go_simp; (try rfl)
  simp only [Act.put, List.setIfInBounds_toArray, List.set_cons_zero, List.set_cons_succ]
  -- 2
  refine AnyH.take' (i := 2) (d := some 14) ⟨fun _ => trivial, fun i o hi => plainOps_spec (by kernel_rfl) hi⟩ rfl (by kernel_rfl) (by kernel_rfl) (by kernel_rfl) (by kernel_rfl) (fun c a w h => absurd h (hQp c _ w)) hb0 (v := ?v2) (Or.inl ⟨by first | (go_simp; done) | rfl, fun w' hw' => ?y2⟩) ?_
  case y2 => have z0 := pw_cell_below hw' r0; go_simp; (try rfl)
  simp only [Act.put, List.setIfInBounds_toArray, List.set_cons_zero, List.set_cons_succ]
  -- 3
  refine AnyH.take' (i := 3) (d := some 15) ⟨fun _ => trivial, fun i o hi => plainOps_spec (by kernel_rfl) hi⟩ rfl (by kernel_rfl) (by kernel_rfl) (by kernel_rfl) (by kernel_rfl) (fun c a w h => absurd h (hQp c _ w)) hb0 (v := ?v3) (Or.inl ⟨by first | (go_simp; done) | rfl, fun w' hw' => ?y3⟩) ?_
  case y3 => have z0 := hlook w' hw'; go_simp; (try rfl)
  simp only [Act.put, List.setIfInBounds_toArray, List.set_cons_zero, List.set_cons_succ]
  -- 4
  refine AnyH.take' (i := 4) (d := some 16) ⟨fun _ => trivial, fun i o hi => plainOps_spec (by kernel_rfl) hi⟩ rfl (by kernel_rfl) (by kernel_rfl) (by kernel_rfl) (by kernel_rfl) (fun c a w h => absurd h (hQp c _ w)) hb0 (v := ?v4) (Or.inl ⟨by first | (go_simp; done) | rfl, fun w' hw' => ?y4⟩) ?_
  case y4 => go_simp; (try rfl)
  simp only [Act.put, List.setIfInBounds_toArray, List.set_cons_zero, List.set_cons_succ]
  -- 5
  refine AnyH.take' (i := 5) (d := some 17) ⟨fun _ => trivial, fun i o hi => plainOps_spec (by kernel_rfl) hi⟩ rfl (by kernel_rfl) (by kernel_rfl) (by kernel_rfl) (by kernel_rfl) (fun c a w h => absurd h (hQp c _ w)) hb0 (v := ?v5) (Or.inl ⟨by first | (go_simp; done) | rfl, fun w' hw' => ?y5⟩) ?_
  case y5 => have z0 := pw_cell_below hw' r0; have z1 := pw_cell_below hw' r1; have z2 := pw_cell_below hw' r2; go_simp; (try rfl)
  simp only [Act.put, List.setIfInBounds_toArray, List.set_cons_zero, List.set_cons_succ]
  -- 6
  refine AnyH.take' (i := 6) (d := some 18) ⟨fun _ => trivial, fun i o hi => plainOps_spec (by kernel_rfl) hi⟩ rfl (by kernel_rfl) (by kernel_rfl) (by kernel_rfl) (by kernel_rfl) (fun c a w h => absurd h (hQp c _ w)) hb0 (v := ?v6) (Or.inl ⟨by first | (go_simp; done) | rfl, fun w' hw' => ?y6⟩) ?_
  case y6 => go_simp; (try rfl)
  simp only [Act.put, List.setIfInBounds_toArray, List.set_cons_zero, List.set_cons_succ]
  -- 7
  refine AnyH.take' (i := 7) (d := some 19) ⟨fun _ => trivial, fun i o hi => plainOps_spec (by kernel_rfl) hi⟩ rfl (by kernel_rfl) (by kernel_rfl) (by kernel_rfl) (by kernel_rfl) (fun c a w h => absurd h (hQp c _ w)) hb0 (v := ?v7) (Or.inl ⟨by first | (go_simp; done) | rfl, fun w' hw' => ?y7⟩) ?_
  case y7 => have z0 := pw_cell_below hw' k0; go_simp; (try rfl)
  simp only [Act.put, List.setIfInBounds_toArray, List.set_cons_zero, List.set_cons_succ]
  refine AnyH.one (i := 8) rfl (by kernel_rfl) ?_
  intro K hK
  go_simp
  refine ⟨trivial, fun h => (by cases h), CallsIn.inRound l (callsIn_wide.2 ((entry_any x A1 c1 ls _ (Kd.C_below hL hb0) hls).mono ?_))⟩
  rintro e w2 ⟨A3, c3, rfl, hc3, hC3, hb3⟩
  dsimp only
  have hb1 := below_step hb0 hb3
  refine hK _ _ hb1 fun _ => ?_
  clear hK
  refine AnyH.one (i := 9) rfl (by kernel_rfl) ?_
  intro K hK
  go_simp
  refine ⟨trivial, fun h => (by cases h), CallsIn.inRound l (callsIn_wide.2 ((rightE_any ⟨x.f0, x.f1, ls, x.f2⟩ A3 c3 w2 (hT.below hb1) hC3).mono ?_))⟩
  rintro e w3 ⟨rfl, hb4⟩
  dsimp only
  have hb2 := below_step hb1 hb4
  refine hK _ _ hb2 fun _ => ?_
  rw [hR]
  clear hK
  -- 10
  refine AnyH.take' (i := 10) (d := some 22) ⟨fun _ => trivial, fun i o hi => plainOps_spec (by kernel_rfl) hi⟩ rfl (by kernel_rfl) (by kernel_rfl) (by kernel_rfl) (by kernel_rfl) (fun c a w h => absurd h (hQp c _ w)) hb2 (v := ?v10) (Or.inl ⟨by first | (go_simp; done) | rfl, fun w' hw' => ?y10⟩) ?_
  case y10 => go_simp; (try rfl)
  simp only [Act.put, List.setIfInBounds_toArray, List.set_cons_zero, List.set_cons_succ]
  -- 11
  refine AnyH.take' (i := 11) (d := some 23) ⟨fun _ => trivial, fun i o hi => plainOps_spec (by kernel_rfl) hi⟩ rfl (by kernel_rfl) (by kernel_rfl) (by kernel_rfl) (by kernel_rfl) (fun c a w h => absurd h (hQp c _ w)) hb2 (v := ?v11) (Or.inl ⟨by first | (go_simp; done) | rfl, fun w' hw' => ?y11⟩) ?_
  case y11 => go_simp; (try rfl)
  simp only [Act.put, List.setIfInBounds_toArray, List.set_cons_zero, List.set_cons_succ]
  -- 12
  refine AnyH.take' (i := 12) (d := some 24) ⟨fun _ => trivial, fun i o hi => plainOps_spec (by kernel_rfl) hi⟩ rfl (by kernel_rfl) (by kernel_rfl) (by kernel_rfl) (by kernel_rfl) (fun c a w h => absurd h (hQp c _ w)) hb2 (v := ?v12) (Or.inl ⟨by first | (go_simp; done) | rfl, fun w' hw' => ?y12⟩) ?_
  case y12 => go_simp; (try rfl)
  simp only [Act.put, List.setIfInBounds_toArray, List.set_cons_zero, List.set_cons_succ]
  -- 13
  refine AnyH.take' (i := 13) (d := some 25) ⟨fun _ => trivial, fun i o hi => plainOps_spec (by kernel_rfl) hi⟩ rfl (by kernel_rfl) (by kernel_rfl) (by kernel_rfl) (by kernel_rfl) (fun c a w h => absurd h (hQp c _ w)) hb2 (v := ?v13) (Or.inl ⟨by first | (go_simp; done) | rfl, fun w' hw' => ?y13⟩) ?_
  case y13 => have z0 := pw_cell_below hw' r0; have z1 := pw_cell_below hw' r1; have z2 := pw_cell_below hw' r2; go_simp; (try rfl)
  simp only [Act.put, List.setIfInBounds_toArray, List.set_cons_zero, List.set_cons_succ]
  -- 15
  refine AnyH.take' (i := 15) (d := some 27) ⟨fun _ => trivial, fun i o hi => plainOps_spec (by kernel_rfl) hi⟩ rfl (by kernel_rfl) (by kernel_rfl) (by kernel_rfl) (by kernel_rfl) (fun c a w h => absurd h (hQp c _ w)) hb2 (v := ?v15) (Or.inl ⟨by first | (go_simp; done) | rfl, fun w' hw' => ?y15⟩) ?_
  case y15 => have z0 := pw_cell_below hw' s0; have z1 := pw_cell_below hw' s1; have z2 := pw_cell_below hw' s2; go_simp; (try rfl)
  simp only [Act.put, List.setIfInBounds_toArray, List.set_cons_zero, List.set_cons_succ]
  refine AnyH.one (i := 14) rfl (by kernel_rfl) ?_
  intro K hK
  go_simp
  refine ⟨trivial, fun h => (by cases h), CallsIn.inRound l (callsIn_wide.2 ((entry_nil x w3).mono ?_))⟩
  rintro e w4 ⟨rfl, hw4⟩
  dsimp only
  have hbw4 := below_step hb2 hw4
  refine hK _ _ hbw4 fun _ => ?_
  clear hK
  refine AnyH.one (i := 16) rfl (by kernel_rfl) ?_
  intro K hK
  go_simp
  refine ⟨trivial, fun h => (by cases h), CallsIn.inRound l (callsIn_wide.2 ((entry_nil y w4).mono ?_))⟩
  rintro e w5 ⟨rfl, hw5⟩
  dsimp only
  have hbw5 := below_step hbw4 hw5
  refine hK _ _ hbw5 fun _ => ?_
  clear hK
  refine AnyH.one (i := 17) rfl (by kernel_rfl) ?_
  intro K hK
  go_simp
  refine ⟨trivial, fun h => (by cases h), CallsIn.inRound l (callsIn_wide.2 ((before_any x.f0 x.f1 y.f0 y.f1 _ _ _ _ w5).mono ?_))⟩
  rintro e w6 ⟨rfl, hw6⟩
  dsimp only
  have hbw6 := below_step hbw5 hw6
  refine hK _ _ hbw6 fun _ => ?_
  clear hK
  -- 18
  refine AnyH.take' (i := 18) (d := some 30) ⟨fun _ => trivial, fun i o hi => plainOps_spec (by kernel_rfl) hi⟩ rfl (by kernel_rfl) (by kernel_rfl) (by kernel_rfl) (by kernel_rfl) (fun c a w h => absurd h (hQp c _ w)) hbw6 (v := ?v18) (Or.inl ⟨by first | (go_simp; done) | rfl, fun w' hw' => ?y18⟩) ?_
  case y18 => go_simp; (try rfl)
  simp only [Act.put, List.setIfInBounds_toArray, List.set_cons_zero, List.set_cons_succ]
  exact AnyH.done (by kernel_rfl) (hQ _ _ _ _ _ _ _ _ _ _ _ _ _ _ _ _ _ _ _ hbw6) _
end Go.Proofs.YtojocffjajcdmaaDoor.RF
/- A set of whole numbers in a map. -/
namespace Go.Proofs.YtojocffjajcdmaaDoor.RF
open Go Go.RowKit
set_option linter.unusedVariables false

/-- Block b is a map[int]bool of at most n entries; what is asked of it is S. -/
structure SetIs (w : World) (b n : Nat) (S : Int → Bool) : Prop where
  out : ∃ D : DataW Unit, w.ownsMap Tryd.prog 3 (plainElem Tryd.prog 4) b n D ∧ ∀ i, (Lit.int .i64 i).wf = true → D.atKey (.int .i64 i) (.lit (.bool false)) = .lit (.bool (S i))

theorem keyed3 : Go.Maps.Keyed Tryd.prog 3 := Go.Maps.int_keyed Tryd.underlying3
theorem zero4 (w : World) : (zeroValue 4).run Tryd.prog w = .ok (.bool false) w := by kernel_rfl
theorem isMap_of_owns {H : Type} {w : World} {P : Program} {k : TypeId} {R : Value → Option (DataW H × List MemPlace)} {b n : Nat} {D : DataW H} (h : w.ownsMap P k R b n D) : ∃ es, D = .map es := by
  obtain ⟨es, clock, _, _, _, rfl⟩ := h
  exact ⟨_, rfl⟩
theorem SetIs.made (w : World) : SetIs (w.alloc (.map #[] 0)) w.heap.size 0 (fun _ => false) :=
  ⟨.map [], World.ownsMap_made w _ _ _, fun i _ => rfl⟩
set_option maxRecDepth 100000 in
theorem SetIs.lookup {w : World} {b n : Nat} {S : Int → Bool} (h : SetIs w b n S) (i : Int) (hi : (Lit.int .i64 i).wf = true) :
    (Instr.lookup 96 (.map (some b)) (.int .i64 i) false).run Tryd.prog w = .ok (.bool (S i)) w := by
  obtain ⟨D, ho, hD⟩ := h.out
  obtain ⟨v, ps, hrun, hv⟩ := ho.lookup keyed3 Tryd.underlying96 (zero4 w) (plainElem_bool Tryd.underlying4 false) (Go.Maps.keyOf_int_mk Tryd.underlying3 hi)
  rw [hD i hi] at hv
  rw [hrun]
  unfold plainElem at hv
  rw [Tryd.underlying4] at hv
  cases v <;> simp at hv
  rw [hv.1]
theorem SetIs.kept {w w' : World} {b n : Nat} {S : Int → Bool} (h : SetIs w b n S) {row : Option Nat} (hg : w.grownBy w' row) (hne : some b ≠ row) : SetIs w' b n S := by
  obtain ⟨D, ho, hD⟩ := h.out
  exact ⟨D, ho.kept hg hne, hD⟩
theorem SetIs.below {w w' : World} {b n : Nat} {S : Int → Bool} (h : SetIs w b n S) (hb : Below w.heap.size w w') : SetIs w' b n S :=
  h.kept ⟨hb.os, hb.tape, hb.output, hb.size, fun k hk _ => hb.block k hk⟩ (row := none) (by simp)
theorem SetIs.lt {w : World} {b n : Nat} {S : Int → Bool} (h : SetIs w b n S) : b < w.heap.size := by
  obtain ⟨D, ho, hD⟩ := h.out; exact ho.lt
theorem SetIs.same {w w' : World} {b n : Nat} {S : Int → Bool} (h : SetIs w b n S) (hb : w'.heap[b]? = w.heap[b]?) : SetIs w' b n S := by
  obtain ⟨D, ⟨es, clock, h1, h2⟩, hD⟩ := h.out
  exact ⟨D, ⟨es, clock, hb.trans h1, h2⟩, hD⟩
theorem SetIs.isMap {w : World} {b n : Nat} {S : Int → Bool} (h : SetIs w b n S) : ∃ es clock, w.heap[b]? = some (.map es clock) := by
  obtain ⟨D, ⟨es, clock, hb, _⟩, hD⟩ := h.out; exact ⟨es, clock, hb⟩
theorem SetIs.put {w' : World} {b n : Nat} {S : Int → Bool} {D : DataW Unit} (hM : ∃ es, D = .map es) (hD : ∀ i, (Lit.int .i64 i).wf = true → D.atKey (.int .i64 i) (.lit (.bool false)) = .lit (.bool (S i)))
    (i : Int) (x : Bool) (ho : w'.ownsMap Tryd.prog 3 (plainElem Tryd.prog 4) b (n + 1) (D.put (.int .i64 i) (.lit (.bool x)))) : SetIs w' b (n + 1) (fun j => if j = i then x else S j) := by
  refine ⟨_, ho, fun j hj => ?_⟩
  by_cases e : j = i
  · subst e
    rw [Maps.atKey_put_same hM (by trivial)]
    simp
  · rw [Maps.atKey_put_other (by simpa using e), hD j hj]
    simp [e]
theorem SetIs.update {w : World} {b n : Nat} {S : Int → Bool} (h : SetIs w b n S) (i : Int) (hi : (Lit.int .i64 i).wf = true) (hn : n < maxLen) (x : Bool) :
    ∃ w', (Instr.mapUpdate 96 (.map (some b)) (.int .i64 i) (.bool x)).run Tryd.prog w = .ok () w' ∧ SetIs w' b (n + 1) (fun j => if j = i then x else S j) ∧ w.grownBy w' (some b) := by
  obtain ⟨D, ho, hD⟩ := h.out
  obtain ⟨w', hrun, h1, h2⟩ := ho.update keyed3 Tryd.underlying96 hn (Go.Maps.keyOf_int_mk Tryd.underlying3 hi) (plainElem_bool Tryd.underlying4 x)
  exact ⟨w', hrun, SetIs.put (isMap_of_owns ho) hD i x h1, h2⟩
theorem SetIs.ext {w : World} {b n : Nat} {S T : Int → Bool} (h : SetIs w b n S) (e : ∀ i, S i = T i) : SetIs w b n T := by
  obtain rfl : S = T := funext e; exact h
end Go.Proofs.YtojocffjajcdmaaDoor.RF
/- chunk.Right: what it answers. -/
namespace Go.Proofs.YtojocffjajcdmaaDoor.RF
open Go Go.RowKit Go.Shelf Go.Sort Go.Proofs.YtojocffjajcdmaaDoor Go.Proofs.YtojocffjajcdmaaDoorW.PrintWords Go.Proofs.YtojocffjajcdmaaDoorW.PrintLast Go.Proofs.YtojocffjajcdmaaDoorW.PrintMore PChunkAll
set_option linter.unusedVariables false
set_option linter.unusedSimpArgs false
attribute [local go_sem] Oper.semAt_some

/-- Whether a row may follow. -/
def okAt (ls : List S112) (seen : List Int) (p x : S71) : Bool := !seen.contains x.f0 && (rightE ⟨x.f0, x.f1, ls, x.f2⟩ && !beforeE x.f0 x.f1 p.f0 p.f1)
def okP (ls : List S112) : List Int → List (S71 × S71) → Bool
  | _, [] => true
  | seen, y :: l => okAt ls seen y.1 y.2 && okP ls (y.2.f0 :: seen) l
def sn (seen : List Int) : List (S71 × S71) → List Int
  | [] => seen
  | y :: l => sn (y.2.f0 :: seen) l
theorem okP_append (ls : List S112) (l m : List (S71 × S71)) : ∀ seen, okP ls seen (l ++ m) = (okP ls seen l && okP ls (sn seen l) m) := by
  induction l with
  | nil => intro seen; rfl
  | cons y l ih => intro seen; show (_ && okP ls _ (l ++ m)) = ((_ && _) && _); rw [ih, Bool.and_assoc]; rfl
theorem okP_snoc (ls : List S112) (l : List (S71 × S71)) (y : S71 × S71) (seen : List Int) : okP ls seen (l ++ [y]) = (okP ls seen l && okAt ls (sn seen l) y.1 y.2) := by
  rw [okP_append]; show (_ && (_ && true)) = _; rw [Bool.and_true]
theorem sn_snoc (l : List (S71 × S71)) (y : S71 × S71) : ∀ seen, sn seen (l ++ [y]) = y.2.f0 :: sn seen l := by
  induction l with
  | nil => intro seen; rfl
  | cons a l ih => intro seen; exact ih _
/-- What chunk.Right answers. -/
def rightC (ls : List S112) (rows : List S71) : Bool := okP ls [] (pairsL z71 rows) && (decide (1 ≤ rows.length) && decide (rows.length ≤ 1000))

theorem KeepsFrom.of_below {B : Nat} {X Y : World} (h : Below X.heap.size X Y) : KeepsFrom B X Y := ⟨h.size, fun k o hB hk _ => (h.block k (Array.getElem?_eq_some_iff.1 hk).1).trans hk⟩
theorem KpS.of_grown {S : Nat → Prop} {X Y : World} {b : Nat} (hg : X.grownBy Y (some b)) (hb : ∀ o : Obj, X.heap[b]? = some o → o.isCells = false) : KpS S X Y :=
  ⟨hg.size, fun k o _ hk ho => (hg.block k (Array.getElem?_eq_some_iff.1 hk).1 (fun e => by have := hb o (by cases e; exact hk); rw [ho] at this; cases this)).trans hk⟩
theorem prefix_mem {rows : List S71} {pre : List (S71 × S71)} {y : S71 × S71} (h : (pre ++ [y]) <+: pairsL z71 rows) : y.2 ∈ rows := by
  have hp : ∀ (l : List S71) (p : S71) (z : S71 × S71), z ∈ pairsL p l → z.2 ∈ l := by
    intro l
    induction l with
    | nil => intro p z hz; cases hz
    | cons a l ih =>
      intro p z hz
      rcases List.mem_cons.1 hz with rfl | hz
      · exact List.mem_cons_self
      · exact List.mem_cons_of_mem _ (ih _ _ hz)
  exact hp _ _ _ (h.subset (by simp))

theorem prefix_len {rows : List S71} {pre : List (S71 × S71)} {y : S71 × S71} (h : (pre ++ [y]) <+: pairsL z71 rows) : pre.length < rows.length := by
  have := h.length_le
  rw [pairsL_len] at this
  simp at this
  omega
/-- Between two rounds. -/
structure RI (w : World) (A1 : Option Addr) (c1 : Nat) (ls : List S112) (A2 : Option Addr) (c2 : Nat) (rows : List S71) (v : Bool) (W : World) : Prop where
  ch : Blk W w.heap.size #[.slice A1 ls.length c1, .slice A2 rows.length c2] 53
  res : Blk W (w.heap.size + 1) #[.bool v] 4
  low : Below w.heap.size w W
structure RM (w : World) (ls : List S112) (pre : List (S71 × S71)) (W : World) : Prop where
  met : SetIs W (w.heap.size + 2) pre.length (fun i => (sn [] pre).contains i)
  box : Blk W (w.heap.size + 3) #[.map (some (w.heap.size + 2))] 96
  ok : okP ls [] pre = true
theorem Blk.grown {W W' : World} {b t : Nat} {cs : Array Value} {row : Option Nat} (h : Blk W b cs t) (hg : W.grownBy W' row) (hne : row ≠ some b) : Blk W' b cs t :=
  ⟨(hg.block b h.lt (fun e => hne e.symm)).trans h.out⟩
theorem RI.grown {w : World} {A1 : Option Addr} {c1 : Nat} {ls : List S112} {A2 : Option Addr} {c2 : Nat} {rows : List S71} {v : Bool} {W W' : World} {row : Option Nat} (h : RI w A1 c1 ls A2 c2 rows v W) (hg : W.grownBy W' row) (hr : ∀ r, row = some r → w.heap.size + 2 ≤ r) : RI w A1 c1 ls A2 c2 rows v W' :=
  ⟨Blk.grown h.ch hg (fun e => by have := hr _ e; omega), Blk.grown h.res hg (fun e => by have := hr _ e; omega), h.low.grown hg h.low.size (fun k e => by have := hr _ e; omega)⟩
theorem RM.grown {w : World} {ls : List S112} {pre : List (S71 × S71)} {W W' : World} {row : Option Nat} (h : RM w ls pre W) (hg : W.grownBy W' row) (hr : ∀ r, row = some r → w.heap.size + 4 ≤ r) : RM w ls pre W' :=
  ⟨h.met.kept hg (fun e => by have := hr _ e.symm; omega), Blk.grown h.box hg (fun e => by have := hr _ e; omega), h.ok⟩
theorem grown_below {W W' : World} (h : Below W.heap.size W W') : W.grownBy W' none := ⟨h.os, h.tape, h.output, h.size, fun k hk _ => h.block k hk⟩


theorem RI.set0 {w : World} {A1 : Option Addr} {c1 : Nat} {ls : List S112} {A2 : Option Addr} {c2 : Nat} {rows : List S71} {v : Bool} {W : World} (h : RI w A1 c1 ls A2 c2 rows v W) (u : Bool) : RI w A1 c1 ls A2 c2 rows u (W.setCell ⟨w.heap.size + 1, 0, none⟩ (.bool u)) :=
  ⟨h.ch.far _ _ (by show w.heap.size ≠ w.heap.size + 1; omega), by simpa using h.res.set 0 (.bool u), h.low.setCell (p := ⟨w.heap.size + 1, 0, none⟩) (Nat.le_succ _) _⟩
theorem ri_ret {w : World} {A1 : Option Addr} {c1 : Nat} {ls : List S112} {A2 : Option Addr} {c2 : Nat} {rows : List S71} {v : Bool} {W : World} {D : Nat} (h : RI w A1 c1 ls A2 c2 rows v W) (hD : w.heap.size + 2 ≤ D) (hK : W.heap[D]? = some (.deferred (some []))) (ts : Array Value) (h2 : ts[2]? = some (.pointer (some ⟨w.heap.size + 1, 0, none⟩))) :
    bodyPostM Fence.wide 3 Tryd.prog Tryd.f57 (BoolBelow v w) .ret ⟨ts, [{ target := .collected D, args := #[] }]⟩ W := by
  refine ⟨by simp, .inl ⟨_, _, rfl, run_takeDeferred hK, ?_⟩⟩
  have h3 := h.grown (grownBy_putObj' W D (.deferred none)) (fun r e => by cases e; exact hD)
  have hc := h3.res.cell 0 _ rfl
  refine ⟨.bool v, ?_, rfl, h3.low⟩
  replace hc : (W.putObj D (.deferred none)).cell? ⟨w.heap.size + 1, 0, none⟩ = some (.bool v) := hc
  simp [results, Tryd.f57, go_sem, hc, h2]

theorem test_any (l n : Nat) (A1 : Option Addr) (n1 c1 : Nat) (A2 : Option Addr) (n2 c2 : Nat) (cB sB mB wB rB mb : Nat) (W : World) (y x : S71) (seen : List Int)
    (h3 : W.cell? ⟨mB, 0, none⟩ = some (.map (some mb))) (r0 : W.cell? ⟨rB, 0, none⟩ = some (.int .i64 x.f0)) (r1 : W.cell? ⟨rB, 1, none⟩ = some (.int .i64 x.f1)) (r2 : W.cell? ⟨rB, 2, none⟩ = some (.string x.f2)) (k0 : W.cell? ⟨cB, 0, none⟩ = some (.slice A1 n1 c1))
    (hlook : ∀ w', Below W.heap.size W w' → (Instr.lookup 96 (.map (some mb)) (.int .i64 x.f0) false).run Tryd.prog w' = .ok (.bool (seen.contains x.f0)) w') (ls : List S112) (hn1 : n1 = ls.length) (hls : ls.length < 4398046511104) (hT : Tabs W) (hL : Kd.C k112 W A1 ls.length ls)
    (s0 : W.cell? ⟨wB, 0, none⟩ = some (.int .i64 y.f0)) (s1 : W.cell? ⟨wB, 1, none⟩ = some (.int .i64 y.f1)) (s2 : W.cell? ⟨wB, 2, none⟩ = some (.string y.f2))
    (Q : Exit → Act → World → Prop) (hQp : ∀ c a w, ¬ Q (.panic c) a w) (u6 u7 u8 u9 u10 u11 u12 u13 u14 u15 u16 u17 u18 u19 u20 u21 u22 u23 u24 u25 u26 u27 u28 u29 u30 u31 u32 u33 u34 u35 u36 u37 u38 u39 u40 u41 u42 u43 : Value)
    (hQ : ∀ (v12 v13 v14 v15 v16 v17 v18 v19 v20 v21 v22 v23 v24 v25 v26 v27 v28 v29 : Value) (W' : World), Below W.heap.size W W' → Q .normal ⟨#[chV A1 n1 c1 A2 n2 c2, .pointer (some ⟨cB, 0, none⟩), .pointer (some ⟨sB, 0, none⟩), .pointer (some ⟨mB, 0, none⟩), .pointer (some ⟨wB, 0, none⟩), .pointer (some ⟨rB, 0, none⟩), u6, u7, u8, u9, u10, u11, v12, v13, v14, v15, v16, v17, v18, v19, v20, v21, v22, v23, v24, v25, v26, v27, v28, v29, .bool (!okAt ls seen y x), u31, u32, u33, u34, u35, u36, u37, u38, u39, u40, u41, u42, u43], []⟩ W') :
    rightTest.wpIn (Fence.wide.inRound l) n Tryd.prog Q ⟨#[chV A1 n1 c1 A2 n2 c2, .pointer (some ⟨cB, 0, none⟩), .pointer (some ⟨sB, 0, none⟩), .pointer (some ⟨mB, 0, none⟩), .pointer (some ⟨wB, 0, none⟩), .pointer (some ⟨rB, 0, none⟩), u6, u7, u8, u9, u10, u11, u12, u13, u14, u15, u16, u17, u18, u19, u20, u21, u22, u23, u24, u25, u26, u27, u28, u29, u30, u31, u32, u33, u34, u35, u36, u37, u38, u39, u40, u41, u42, u43], []⟩ W := by
  cases hm : seen.contains x.f0
  · rw [hm] at hlook
    cases hR : rightE ⟨x.f0, x.f1, ls, x.f2⟩
    · have e : okAt ls seen y x = false := by unfold okAt; rw [hR]; simp
      rw [e] at hQ
      exact test_wrong l n A1 n1 c1 A2 n2 c2 cB sB mB wB rB mb W x y h3 r0 r1 r2 k0 hlook ls hn1 hls hT hL hR Q hQp u6 u7 u8 u9 u10 u11 u12 u13 u14 u15 u16 u17 u18 u19 u20 u21 u22 u23 u24 u25 u26 u27 u28 u29 u30 u31 u32 u33 u34 u35 u36 u37 u38 u39 u40 u41 u42 u43 hQ
    · have e : (!okAt ls seen y x) = beforeE x.f0 x.f1 y.f0 y.f1 := by unfold okAt; rw [hR, hm]; simp
      rw [e] at hQ
      exact test_fine l n A1 n1 c1 A2 n2 c2 cB sB mB wB rB mb W x y h3 r0 r1 r2 k0 hlook ls hn1 hls hT hL hR s0 s1 s2 Q hQp u6 u7 u8 u9 u10 u11 u12 u13 u14 u15 u16 u17 u18 u19 u20 u21 u22 u23 u24 u25 u26 u27 u28 u29 u30 u31 u32 u33 u34 u35 u36 u37 u38 u39 u40 u41 u42 u43 hQ
  · rw [hm] at hlook
    have e : okAt ls seen y x = false := by unfold okAt; rw [hm]; simp
    rw [e] at hQ
    exact test_met l n A1 n1 c1 A2 n2 c2 cB sB mB wB rB mb W x y h3 r0 hlook Q hQp u6 u7 u8 u9 u10 u11 u12 u13 u14 u15 u16 u17 u18 u19 u20 u21 u22 u23 u24 u25 u26 u27 u28 u29 u30 u31 u32 u33 u34 u35 u36 u37 u38 u39 u40 u41 u42 u43 hQ

set_option maxRecDepth 100000 in
set_option maxHeartbeats 4000000 in
theorem cright_any (A1 : Option Addr) (c1 : Nat) (ls : List S112) (A2 : Option Addr) (c2 : Nat) (rows : List S71) (w : World) (hT : Tabs w) (hls : ls.length < 4398046511104) (hm : rows.length < 4611686018427387904)
    (hL : Kd.C k112 w A1 ls.length ls) (hR : RowC w A2 (rcells rows)) (hwf : ∀ x ∈ rows, (Lit.int .i64 x.f0).wf = true) :
    Calls Tryd.prog 57 #[chV A1 ls.length c1 A2 rows.length c2] w (BoolBelow (rightC ls rows) w) := by
  have HWF := Lib.hid hwf
  have HR := Lib.hid hR
  have HL := Lib.hid hL
  clear hwf hR hL
  have hmm := @run_makeMap Tryd.prog
  refine (callsIn_wide (n := 3)).1 ?_
  refine callsIn_of_wp_marks Tryd.func57 rfl trivial ?_ rfl
  simp only [Tryd.ntmps57, List.size_toArray, List.length_cons, List.length_nil, Nat.reduceAdd, Nat.reduceSub, Array.replicate_succ, Array.replicate_zero, List.push_toArray, List.append_toArray, List.nil_append, List.cons_append]
  gi_wp2_with (first | (refine ⟨trivial, ?_⟩; gi_at_call 112; refine (callsIn_wide.2 (pairs_any _ _ _ _)).mono ?_; rintro e w' ⟨rfl, rfl⟩))
  obtain ⟨W0, hW0⟩ : ∃ W0, W0 = ((((w.alloc (.cells #[.slice A1 ls.length c1, .slice A2 rows.length c2] 53)).alloc (.cells #[.bool false] 4)).alloc (.map #[] 0)).alloc (.cells #[.map (some (w.heap.size + 2))] 96)).alloc (.cells #[.slice A2 rows.length c2] 51) := ⟨_, rfl⟩
  simp only [Nat.add_assoc, Nat.reduceAdd]
  rw [← hW0]
  have hsz : W0.heap.size = w.heap.size + 5 := by rw [hW0]; simp
  have k0 : Blk (w.alloc (.cells #[.slice A1 ls.length c1, .slice A2 rows.length c2] 53)) w.heap.size #[.slice A1 ls.length c1, .slice A2 rows.length c2] 53 := Blk.new _ _ _ _ rfl
  have hri : RI w A1 c1 ls A2 c2 rows false W0 := by
    rw [hW0]
    exact ⟨((((Blk.new _ _ _ _ rfl).alloc _).alloc _).alloc _).alloc _, (((Blk.new _ _ _ _ (by simp)).alloc _).alloc _).alloc _,
      (((((Below.refl _ _).alloc (by simp) _).alloc (by simp) _).alloc (by simp; omega) _).alloc (by simp; omega) _).alloc (by simp; omega) _⟩
  have hrm : RM w ls [] W0 := by
    rw [hW0]
    refine ⟨?_, (Blk.new _ _ _ _ (by simp)).alloc _, rfl⟩
    have := ((SetIs.made ((w.alloc (.cells #[.slice A1 ls.length c1, .slice A2 rows.length c2] 53)).alloc (.cells #[.bool false] 4))).below ((Below.refl _ _).alloc (Nat.le_refl _) (.cells #[.map (some (w.heap.size + 2))] 96))).below ((Below.refl _ _).alloc (Nat.le_refl _) (.cells #[.slice A2 rows.length c2] 51))
    simpa [sn] using this
  have hbx : W0.cell? ⟨w.heap.size + 4, 0, none⟩ = some (.slice A2 rows.length c2) := by
    rw [hW0]; exact (Blk.new _ _ _ (w.heap.size + 4) (by simp)).cell 0 _ rfl
  have hrow : RowC W0 A2 (rcells rows) := HR.out.below hri.low
  have hTW : ∀ W, RI w A1 c1 ls A2 c2 rows false W → Tabs W := fun W h => hT.below h.low
  have hLW : ∀ W, RI w A1 c1 ls A2 c2 rows false W → Kd.C k112 W A1 ls.length ls := fun W h => Kd.C_below HL.out h.low
  refine wpIn_range rfl (by decide) (gf := 151) (lb := #[.pointer (some ⟨w.heap.size + 4, 0, none⟩)]) rfl trivial (enters_of Tryd.func151 (by kernel_rfl) rfl)
    (pairs_seq (fun _ => False) (w.heap.size + 4) A2 c2 rows 2 (by decide) W0 (fun _ h => h.elim) (fun _ _ _ h => h.elim) (fun h => h.elim) hbx hrow hm)
    KpS.trans (fun W l o o' _ h ho => KpS.putObj W l o o' h ho) (Below.refl _ _) (fun _ => rfl)
    (fun pre W => RI w A1 c1 ls A2 c2 rows false W ∧ RM w ls pre W) (fun c pre W => c = .ret ∧ RI w A1 c1 ls A2 c2 rows false W ∧ okP ls [] pre = false)
    (fun s X Y row hs hg hr => ⟨hs.1.grown hg (fun r e => by have := hr r e; omega), hs.2.grown hg (fun r e => by have := hr r e; omega)⟩)
    (fun c s X Y row hs hg hr => ⟨hs.1, hs.2.1.grown hg (fun r e => by have := hr r e; omega), hs.2.2⟩)
    ⟨hri, hrm⟩ (fun x a' W => ∃ b1 b2, Blk W b1 (rowC x.1) 71 ∧ Blk W b2 (rowC x.2) 71 ∧ a' = ⟨#[chV A1 ls.length c1 A2 rows.length c2, .pointer (some ⟨w.heap.size, 0, none⟩), .pointer (some ⟨w.heap.size + 1, 0, none⟩), .pointer (some ⟨w.heap.size + 3, 0, none⟩), .pointer (some ⟨b1, 0, none⟩), .pointer (some ⟨b2, 0, none⟩), .map (some (w.heap.size + 2)), .pointer (some ⟨w.heap.size, 1, none⟩), .slice A2 rows.length c2, .func (.func 151) #[] #[.pointer (some ⟨w.heap.size + 4, 0, none⟩)], rowV x.1, rowV x.2, undef, undef, undef, undef, undef, undef, undef, undef, undef, undef, undef, undef, undef, undef, undef, undef, undef, undef, undef, undef, undef, undef, undef, undef, undef, undef, undef, undef, undef, undef, undef, undef], []⟩) ?hAx ?assign ?body ?done ?stop
  case hAx =>
    rintro x a' W l o o' ⟨b1, b2, B1, B2, rfl⟩ hl ho hc
    have hne : ∀ {b t cs}, Blk W b cs t → b ≠ l := fun hB e => by rw [← e, hB.out] at ho; cases ho; cases hc
    exact ⟨b1, b2, ⟨(World.putObj_heap_other (hne B1)).trans B1.out⟩, ⟨(World.putObj_heap_other (hne B2)).trans B2.out⟩, rfl⟩
  case assign =>
    rintro l pre x W K ⟨hri, hrm⟩ hle hK
    gi_wp2
    have hb2 : Below W.heap.size W ((W.alloc (.cells (rowC x.1) 71)).alloc (.cells (rowC x.2) 71)) := ((Below.refl _ _).alloc (Nat.le_refl _) _).alloc (by simp) _
    exact hK _ _ (KeepsFrom.of_below hb2) (KpS.of_below hb2) ⟨hri.grown (grown_below hb2) (fun r e => by cases e), hrm.grown (grown_below hb2) (fun r e => by cases e)⟩
      ⟨W.heap.size, W.heap.size + 1, (Blk.new _ _ _ _ rfl).alloc _, Blk.new _ _ _ _ (by simp), rfl⟩
  case body =>
    rintro l pre x a' W hle ⟨hri, hrm⟩ ⟨b1, b2, B1, B2, rfl⟩ hpre
    have hwx := HWF.out _ (prefix_mem hpre)
    refine wpIn_block (wpIn_seq (wpIn_seq ?_))
    refine test_any l _ A1 ls.length c1 A2 rows.length c2 w.heap.size (w.heap.size + 1) (w.heap.size + 3) b1 b2 (w.heap.size + 2) W x.1 x.2 (sn [] pre) (hrm.box.cell 0 _ rfl) (B2.cell 0 _ rfl) (B2.cell 1 _ rfl) (B2.cell 2 _ rfl) (hri.ch.cell 0 _ rfl)
      (fun w' hb => (hrm.met.below hb).lookup _ hwx) ls rfl hls (hTW W hri) (hLW W hri) (B1.cell 0 _ rfl) (B1.cell 1 _ rfl) (B1.cell 2 _ rfl) _ (fun c a w h => h) _ _ _ _ _ _ _ _ _ _ _ _ _ _ _ _ _ _ _ _ _ _ _ _ _ _ _ _ _ _ _ _ _ _ _ _ _ _ ?_
    intro v12 v13 v14 v15 v16 v17 v18 v19 v20 v21 v22 v23 v24 v25 v26 v27 v28 v29 W' hb
    have hg := grown_below hb
    have hri' := hri.grown hg (fun r e => by cases e)
    have hrm' := hrm.grown hg (fun r e => by cases e)
    have m3 := hrm'.box.cell 0 _ rfl
    have r0 := (Blk.grown B2 hg (fun e => by cases e)).cell 0 _ rfl
    have q1 := hri'.res.cell 0 _ rfl
    have q2 := hri'.res.frozen 0
    obtain ⟨W2, hrun, hS2, hg2⟩ := hrm'.met.update x.2.f0 hwx (by have := prefix_len hpre; unfold maxLen; omega) true
    have HRI := Lib.hid hri'
    have HRM := Lib.hid hrm'
    have HS2 := Lib.hid hS2
    have HG2 := Lib.hid hg2
    have HB := Lib.hid hb
    clear hri' hrm' hS2 hg2 hb hg
    cases hok : okAt ls (sn [] pre) x.1 x.2
    · simp only [Bool.not_false]
      gi_wp2
      have hri2 := HRI.out
      refine ⟨(KeepsFrom.of_below HB.out).trans ((KeepsOthers.setCell W' _ _).from _), rfl, hri2.set0 false, ?_⟩
      rw [okP_snoc, hok, Bool.and_false]
    · simp only [Bool.not_true]
      gi_wp2
      have hrm2 := HRM.out
      refine ⟨(KeepsFrom.of_below HB.out).trans (KeepsFrom.of_grownBy HG2.out (fun j e => by cases e; omega)),
        (KpS.of_below HB.out).trans (KpS.of_grown HG2.out (fun o ho => by obtain ⟨es, ck, hm⟩ := hrm2.met.isMap; rw [hm] at ho; cases ho; rfl)),
        HRI.out.grown HG2.out (fun r e => by cases e; exact Nat.le_refl _), ?_, Blk.grown hrm2.box HG2.out (fun e => by injection e with e; omega), ?_⟩
      · have hs := HS2.out
        rw [List.length_append]
        refine hs.ext fun i => ?_
        rw [sn_snoc, List.contains_cons]
        by_cases e : i = x.2.f0
        · subst e; simp
        · have : (i == x.2.f0) = false := by simpa using e
          simp [e, this]
      · rw [okP_snoc, hok, hrm2.ok]; rfl
  case done =>
    rintro D xs W hD rfl ⟨hri, hrm⟩ hK
    have q0 := hri.ch.cell 1 _ rfl
    have q1 := hri.res.cell 0 _ rfl
    have q2 := hri.res.frozen 0
    have hok := hrm.ok
    have hend : ∀ v, v = rightC ls rows → RI w A1 c1 ls A2 c2 rows v (W.setCell ⟨w.heap.size + 1, 0, none⟩ (.bool v)) := fun v _ => hri.set0 v
    gi_wp2
    · rename_i h1
      have e : decide ((rows.length : Int) ≤ 1000) = rightC ls rows := by
        unfold rightC; rw [hok]
        have : 1 ≤ rows.length := by omega
        simp [this]; omega
      rw [e]
      exact ri_ret (hend _ rfl) (by omega) ((KeepsOthers.setCell W _ _).same D _ hK rfl) _ rfl
    · rename_i h1
      have e : false = rightC ls rows := by
        unfold rightC
        have : ¬ 1 ≤ rows.length := by omega
        simp [this]
      rw [e]
      exact ri_ret (hend _ rfl) (by omega) ((KeepsOthers.setCell W _ _).same D _ hK rfl) _ rfl
  case stop =>
    rintro D c pre W hD hpre ⟨rfl, hri, hok⟩ hK
    gi_wp2
    have e : false = rightC ls rows := by
      obtain ⟨m, hm⟩ := hpre
      unfold rightC
      rw [← hm, okP_append, hok]; rfl
    rw [e] at hri
    exact ri_ret hri (by omega) hK _ rfl
end Go.Proofs.YtojocffjajcdmaaDoor.RF
