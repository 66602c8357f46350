/- slices.Chunk over rows: what its iterator hands over; the caller's law for an iterator without cells of its own. -/
import Derived.Test.YtojocffjajcdmaaDoorLX
import Derived.Test.YtojocffjajcdmaaDoorLC
import Derived.Test.YtojocffjajcdmaaDoorLZ
namespace Go.Proofs.YtojocffjajcdmaaDoor.RF
open Go Go.RowKit Go.Shelf Go.Proofs.YtojocffjajcdmaaDoor Go.Proofs.YtojocffjajcdmaaDoorW.PrintWords Go.Proofs.YtojocffjajcdmaaDoorW.PrintLast Go.Proofs.YtojocffjajcdmaaDoorW.PrintMore PChunkAll
set_option linter.unusedVariables false
set_option linter.unusedSimpArgs false
attribute [local go_sem] Oper.semAt_some

section
/-- It minds nothing that turns in the two blocks from B on. -/
def Stout1 {β : Type} (B : Nat) (I : β → World → Prop) : Prop := ∀ s X Y row, I s X → X.grownBy Y row → (∀ r, row = some r → B ≤ r ∧ r ≤ B + 1) → I s Y
theorem Stout1.putObj {β : Type} {B : Nat} {I : β → World → Prop} (h : Stout1 B I) {s : β} {W : World} {l : Nat} (o' : Obj) (hs : I s W) (hB : B ≤ l ∧ l ≤ B + 1) : I s (W.putObj l o') :=
  h s W _ (some l) hs (grownBy_putObj' W l o') (fun r e => by cases e; exact hB)
theorem Stout1.alloc {β : Type} {B : Nat} {I : β → World → Prop} (h : Stout1 B I) {s : β} {W : World} (o : Obj) (hs : I s W) : I s (W.alloc o) :=
  h s W _ none hs (World.grownBy_alloc W o none) (fun r e => by cases e)
variable {F : Fence} {n : Nat} {P : Program}
end
/-! ### Pieces -/
end Go.Proofs.YtojocffjajcdmaaDoor.RF
/- A region of a round that draws its order, where a condition on the world holds behind every operation but the last one. -/
namespace Go.Proofs.YtojocffjajcdmaaDoor.RF
open Go Go.RowKit Go.Sort
set_option linter.unusedVariables false
set_option linter.unusedSimpArgs false
section
variable {F : Fence} {n : Nat} {P : Program} {ops : Array Oper} {Q : Exit → Act → World → Prop} {md : Region.Mode} {S : World → Prop} {z : Nat}
/-- Whatever order is picked; S holds behind every operation but z. -/
def AnyG (F : Fence) (n : Nat) (P : Program) (md : Region.Mode) (ops : Array Oper) (Q : Exit → Act → World → Prop) (S : World → Prop) (z : Nat) : Nat → Array Bool → Act → World → Prop
  | 0, listed, a, w => Region.ready md ops listed = [] ∧ Q .normal a w
  | k + 1, listed, a, w => (Region.ready md ops listed = [] → Q .normal a w) ∧ ∀ i ∈ Region.ready md ops listed, wpOpIn F n P ops Q i (fun a' w' => (i ≠ z → S w') ∧ AnyG F n P md ops Q S z k (listed.setIfInBounds i true) a' w') a w
theorem AnyG.any : ∀ (k : Nat) (listed : Array Bool) (a : Act) (w : World), AnyG F n P md ops Q S z k listed a w → wpAnyIn F n P md ops Q k listed a w
  | 0, _, _, _, h => h
  | k + 1, _, _, _, h => ⟨h.1, fun i hi => wpOpIn_mono (fun a' w' h' => AnyG.any k _ a' w' h'.2) (h.2 i hi)⟩

/-- z is told to come behind i. -/
def lastB (md : Region.Mode) (ops : Array Oper) (z i : Nat) : Bool := z == i || match ops[z]? with
  | some o => o.after.toList.any fun e => Region.binds md e && e.on == i
  | none => true
theorem lastB_spec {z i : Nat} (h : lastB md ops z i = true) : ∀ oz, ops[z]? = some oz → z ≠ i → ∃ e ∈ oz.after, Region.binds md e = true ∧ e.on = i := by
  intro oz ho hne
  unfold lastB at h
  rw [ho] at h
  simp only [Bool.or_eq_true, beq_iff_eq, hne, false_or] at h
  obtain ⟨e, he, h2⟩ := List.any_eq_true.1 h
  simp only [Bool.and_eq_true, beq_iff_eq] at h2
  exact ⟨e, by simpa using he, h2.1, h2.2⟩

/-- What yields in every world that meets S may be taken first. -/
theorem AnyG.first {i : Nat} {oi : Oper} {v : Value} (hf : Free F ops) (hi : ops[i]? = some oi) (hsel : ∀ (j : Nat) (o : Oper) cs b, ops[j]? = some o → o.op ≠ .select cs b)
    (hz : ∀ oz, ops[z]? = some oz → z ≠ i → ∃ e ∈ oz.after, Region.binds md e = true ∧ e.on = i)
    (hQ : ∀ c a w, Q (.panic c) (a.put oi.dst v) w → Q (.panic c) a w) :
    ∀ (k : Nat) (listed : Array Bool) (a : Act) (w : World),
      (∀ j oj, ops[j]? = some oj → j ≠ i → listed.getD j true = false → (∀ e ∈ oj.after, Region.binds md e = true → e.on ≠ i) → oi.apart ops oj = true) →
      i ∈ Region.ready md ops listed → YieldsIf P ops S oi v a → S w →
      AnyG F n P md ops Q S z k (listed.setIfInBounds i true) (a.put oi.dst v) w → AnyG F n P md ops Q S z (k + 1) listed a w := by
  intro k
  induction k with
  | zero =>
    intro listed a w _ hr hy hS H
    refine ⟨fun h => (by rw [h] at hr; cases hr), fun j hj => ?_⟩
    by_cases hji : j = i
    · subst hji; exact yieldsIf_op hf hi hy hS ⟨fun _ => hS, H⟩
    · have := ready_mono hj hji
      rw [H.1] at this
      cases this
  | succ k ih =>
    intro listed a w hfree hr hy hS H
    refine ⟨fun h => (by rw [h] at hr; cases hr), fun j hj => ?_⟩
    by_cases hji : j = i
    · subst hji; exact yieldsIf_op hf hi hy hS ⟨fun _ => hS, H⟩
    · have h1 := H.2 j (ready_mono hj hji)
      obtain ⟨hjun, oj, hoj, hall⟩ := mem_ready.1 hj
      have hnot : ∀ e ∈ oj.after, Region.binds md e = true → e.on ≠ i := fun e he hb heq => by
        have h1 := hall e he hb
        have h0 := (mem_ready.1 hr).1
        rw [heq] at h1
        rcases Nat.lt_or_ge i listed.size with h' | h'
        · simp [h'] at h0 h1; rw [h0] at h1; cases h1
        · simp [Array.getElem?_eq_none h'] at h1
      have h2 := op_putIf hf hoj (hfree j oj hoj hji hjun hnot) (fun cs b => hsel i oi cs b hi) (fun cs b => hsel j oj cs b hoj) hQ hy h1
      have hfree' : ∀ q ok, ops[q]? = some ok → q ≠ i → (listed.setIfInBounds j true).getD q true = false →
          (∀ e ∈ ok.after, Region.binds md e = true → e.on ≠ i) → oi.apart ops ok = true := fun q ok hq hqi hun hno => by
        refine hfree q ok hq hqi ?_ hno
        by_cases hjq : j = q
        · subst hjq; exact hjun
        · rw [getD_set_ne true hjq] at hun; exact hun
      have hjz : j ≠ z := fun e => by
        subst e
        obtain ⟨e, he, hb, ho⟩ := hz oj hoj hji
        exact hnot e he hb ho
      refine wpOpIn_mono (fun a' w' h3 => ⟨fun _ => h3.2.1 hjz, ih (listed.setIfInBounds j true) a' w' hfree' (ready_mono hr (Ne.symm hji)) h3.1 (h3.2.1 hjz) ?_⟩) h2
      rw [Array.setIfInBounds_comm _ _ hji]
      exact h3.2.2
theorem AnyG.take {i : Nat} {oi : Oper} {v : Value} {k : Nat} {listed : Array Bool} {a : Act} {w : World} (hf : Free F ops) (hi : ops[i]? = some oi)
    (hs : Region.noSelect ops = true) (hz : lastB md ops z i = true) (hfr : Region.free md ops listed i = true) (hr : (Region.ready md ops listed).contains i = true)
    (hQ : ∀ c a w, Q (.panic c) (a.put oi.dst v) w → Q (.panic c) a w) (hS : S w) (hy : YieldsIf P ops S oi v a)
    (h : AnyG F n P md ops Q S z k (listed.setIfInBounds i true) (a.put oi.dst v) w) : AnyG F n P md ops Q S z (k + 1) listed a w :=
  AnyG.first hf hi (Region.noSelect_spec hs) (lastB_spec hz) hQ k listed a w (Region.free_spec hi hfr) (by simpa using hr) hy hS h
theorem AnyG.take' {i : Nat} {d : Option Tmp} {oi : Oper} {v : Value} {k : Nat} {listed : Array Bool} {a : Act} {w : World} (hf : Free F ops) (hi : ops[i]? = some oi) (hd : oi.dst = d)
    (hs : Region.noSelect ops = true) (hz : lastB md ops z i = true) (hfr : Region.free md ops listed i = true) (hr : (Region.ready md ops listed).contains i = true)
    (hQ : ∀ c a w, Q (.panic c) (a.put d v) w → Q (.panic c) a w) (hS : S w) (hy : YieldsIf P ops S oi v a)
    (h : AnyG F n P md ops Q S z k (listed.setIfInBounds i true) (a.put d v) w) : AnyG F n P md ops Q S z (k + 1) listed a w := by
  subst hd; exact AnyG.take hf hi hs hz hfr hr hQ hS hy h
/-- Only one may come up. -/
theorem AnyG.one {i : Nat} {oi : Oper} {k : Nat} {listed : Array Bool} {a : Act} {w : World} (hi : ops[i]? = some oi) (hr : Region.ready md ops listed = [i])
    (h : ∀ K : Act → World → Prop, (∀ a' w', (i ≠ z → S w') → AnyG F n P md ops Q S z k (listed.setIfInBounds i true) a' w' → K a' w') → if Region.wanted oi (yielded ops a.tmps) = true then Oper.wpIn F n P oi a w K Q else (∀ f, oi.about P w a.eval = some f → F.fn f) ∧ K (a.put oi.dst undef) w) : AnyG F n P md ops Q S z (k + 1) listed a w := by
  refine ⟨fun h0 => (by rw [hr] at h0; cases h0), fun j hj => ?_⟩
  rw [hr] at hj
  obtain rfl : j = i := by simpa using hj
  exact wpOpIn_step hi (fun K' hK => h K' (fun a' w' hS hW => hK a' w' ⟨hS, hW⟩))
/-- Two may come up. -/
theorem AnyG.two {i j : Nat} {k : Nat} {listed : Array Bool} {a : Act} {w : World} (hr : Region.ready md ops listed = [i, j])
    (h1 : wpOpIn F n P ops Q i (fun a' w' => (i ≠ z → S w') ∧ AnyG F n P md ops Q S z k (listed.setIfInBounds i true) a' w') a w) (h2 : wpOpIn F n P ops Q j (fun a' w' => (j ≠ z → S w') ∧ AnyG F n P md ops Q S z k (listed.setIfInBounds j true) a' w') a w) : AnyG F n P md ops Q S z (k + 1) listed a w := by
  refine ⟨fun h0 => (by rw [hr] at h0; cases h0), fun q hq => ?_⟩
  rw [hr] at hq
  simp at hq
  rcases hq with rfl | rfl
  · exact h1
  · exact h2
theorem AnyG.done {listed : Array Bool} {a : Act} {w : World} (hr : Region.ready md ops listed = []) (h : Q .normal a w) : ∀ k, AnyG F n P md ops Q S z k listed a w
  | 0 => ⟨hr, h⟩
  | _ + 1 => ⟨fun _ => h, by rw [hr]; simp⟩
theorem region_held_g {id : Nat} {a : Act} {w : World} {l : List Oper} (hm : P.follows .mixedOrders = true) (h : AnyG F n P .any l.toArray Q S z l.length (Array.replicate l.length false) a w.drew) : (Code.region id l.toArray true).wpIn F n P Q a w :=
  wpIn_region_any hm (by simpa using AnyG.any _ _ _ _ h)
end
/-- An append of a row to a row of one's own, inside a region of a round. -/
theorem stepIn_append_own {F : Fence} {n : Nat} {P : Program} (w : World) {ops : Array Oper} {o : Oper} {a : Act} {K : Act → World → Prop} {Q : Exit → Act → World → Prop} {E : Prop}
    (hg : o.guard = none) (s x : Operand) (t : TypeId) (hop : o.op = Op.call { callee := Callee.builtin Builtin.append, args := #[s, x], argTypes := #[t, t] })
    (base : Nat) (e : TypeId) (i : TypeInfo) (z : Value) (size bytes : Nat) (h1 : P.underlying t = some (.slice e)) (h2 : P.info? e = some i) (h3 : i.zero = some z) (h4 : i.size = size) (h5 : i.bytes = bytes) (h6 : z.cells.size = size) (h7 : 0 < size)
    (v : Value) (k : Nat) (xs : List Value) (hs : a.eval s = v) (hown : w.ownsRow base e size v k xs) (ad : Addr) (m c : Nat) (news : List Value) (hx : a.eval x = .slice (some ad) m c) (hn : news.length = m * size)
    (hc : ∀ j u, news[j]? = some u → w.cell? (ad.add j) = some u) (h1c : ∀ u ∈ news, u.oneCell' = true) (b1 : k + m ≤ maxLen) (b2 : (k + m) * bytes ≤ 140737488355328) (b3 : base ≤ w.heap.size)
    (hK : ∀ v' w', w'.ownsRow base e size v' (k + m) (xs ++ news) → w.grownBy w' v.ownBlock → K (a.put o.dst v') w') :
    if Region.wanted o (yielded ops a.tmps) = true then Oper.wpIn F n P o a w K Q else E := by
  have hw : Region.wanted o (yielded ops a.tmps) = true := by simp [Region.wanted, hg]
  rw [if_pos hw]
  obtain ⟨v', w', hrun, r1, r2, r3⟩ := run_append_own (P := P) w base t o.type e i z size bytes h1 h2 h3 h4 h5 h6 h7 v k xs hown ad m c news hn hc h1c b1 b2 b3
  unfold Oper.wpIn
  refine ⟨?_, ?_⟩
  · simp [Oper.about, hop, resolve, Target.leads, Sem.run_pure]
  · rw [Oper.semAt_plain F _ _ (by rw [hop]; intro c hc'; cases hc')]
    simp [execOp, hop, resolve, invoke, builtin, hs, hx, hrun, Result.andThen]
    exact hK v' w' r1 r2
end Go.Proofs.YtojocffjajcdmaaDoor.RF
/- The round of chunk.Split: a chunk more. -/
namespace Go.Proofs.YtojocffjajcdmaaDoor.RF
open Go Go.RowKit Go.Shelf Go.Sort Go.Proofs.YtojocffjajcdmaaDoor Go.Proofs.YtojocffjajcdmaaDoorW.PrintWords Go.Proofs.YtojocffjajcdmaaDoorW.PrintLast Go.Proofs.YtojocffjajcdmaaDoorW.PrintMore PChunkAll
set_option linter.unusedVariables false
set_option linter.unusedSimpArgs false
attribute [local go_sem] Oper.semAt_some

theorem info53 : (Tryd.prog.info? 53).map (fun i => (i.zero, i.size, i.bytes)) = some (some (.agg #[(.slice none 0 0), (.slice none 0 0)]), 2, 48) := by kernel_rfl
end Go.Proofs.YtojocffjajcdmaaDoor.RF
/- chunk.Split: walked. -/
namespace Go.Proofs.YtojocffjajcdmaaDoor.RF
open Go Go.RowKit Go.Shelf Go.Sort Go.Proofs.YtojocffjajcdmaaDoor Go.Proofs.YtojocffjajcdmaaDoorW.PrintWords Go.Proofs.YtojocffjajcdmaaDoorW.PrintLast Go.Proofs.YtojocffjajcdmaaDoorW.PrintMore PChunkAll
set_option linter.unusedVariables false
set_option linter.unusedSimpArgs false
attribute [local go_sem] Oper.semAt_some

def cutOf (ls : List S112) (rows : List S71) (N : Nat) (is : List Nat) : List (List S112 × List S71) := is.map fun i => (ls, (rows.drop i).take N)
def SplP (T E : Nat) (w : World) (l : List (List S112 × List S71)) (e : Ending) (w' : World) : Prop :=
  ∃ A c rs, e = .returned (.slice A (List.length rs) c) ∧ rs.map RK.x = l ∧ ChksO T E w.heap.size (.slice A rs.length c) rs w' ∧ Below w.heap.size w w'

theorem own_grow {W W' : World} {B : Nat} {e : TypeId} {k n : Nat} {v : Value} {xs : List Value} {row : Option Nat} (h : W.ownsRow B e k v n xs) (hg : W.grownBy W' row) (hr : ∀ r, row = some r → r < B) : W'.ownsRow B e k v n xs := by
  refine ⟨h.1, ?_⟩
  rcases h.2 with h2 | ⟨g, cap, cur, h2, h3, h4, h5⟩
  · exact .inl h2
  · exact .inr ⟨g, cap, cur, h2, h3, (hg.block g (Array.getElem?_eq_some_iff.1 h4).1 (fun q => by have := hr g q.symm; omega)).trans h4, h5⟩
theorem ChksO.grow {T E B : Nat} {v : Value} {rs : List RK} {W W' : World} {row : Option Nat} (h : ChksO T E B v rs W) (hg : W.grownBy W' row) (hr : ∀ r, row = some r → r < B) : ChksO T E B v rs W' :=
  ⟨own_grow h.own hg hr, fun r h' => ⟨(h.labs r h').1, own_grow (h.labs r h').2 hg hr⟩, fun r h' => ⟨(h.rows r h').1, own_grow (h.rows r h').2 hg hr⟩⟩
theorem ChksO.le {T E B B' : Nat} {v : Value} {rs : List RK} {W : World} (h : ChksO T E B v rs W) (hB : B' ≤ B) : ChksO T E B' v rs W :=
  ⟨own_le h.own hB, fun r h' => ⟨(h.labs r h').1, own_le (h.labs r h').2 hB⟩, fun r h' => ⟨(h.rows r h').1, own_le (h.rows r h').2 hB⟩⟩
structure SI (w : World) (A1 : Option Addr) (c1 : Nat) (ls : List S112) (A2 : Option Addr) (c2 : Nat) (rows : List S71) (B5 B : Nat) (v : Value) (rs : List RK) (is : List Nat) (N : Nat) (W : World) : Prop where
  ch : Blk W w.heap.size #[.slice A1 ls.length c1, .slice A2 rows.length c2] 53
  out : Blk W B5 #[v] 65
  own : ChksO 53 71 (B + 2) v rs W
  val : rs.map RK.x = cutOf ls rows N is
  low : Below w.heap.size w W
theorem SI.grow {w : World} {A1 : Option Addr} {c1 : Nat} {ls : List S112} {A2 : Option Addr} {c2 : Nat} {rows : List S71} {B5 B : Nat} {v : Value} {rs : List RK} {is : List Nat} {N : Nat} {W W' : World} {row : Option Nat} (h : SI w A1 c1 ls A2 c2 rows B5 B v rs is N W) (hw : w.heap.size < B) (h5 : B5 < B) (hg : W.grownBy W' row) (hr : ∀ r, row = some r → B ≤ r ∧ r ≤ B + 1) : SI w A1 c1 ls A2 c2 rows B5 B v rs is N W' :=
  ⟨Blk.grown h.ch hg (fun e => by have := hr _ e; omega), Blk.grown h.out hg (fun e => by have := hr _ e; omega), h.own.grow hg (fun r e => by have := hr r e; omega), h.val, h.low.grown hg h.low.size (fun k e => by have := hr k e; omega)⟩

end Go.Proofs.YtojocffjajcdmaaDoor.RF
