/- icehouseref03.Sort: walked (turned from this repository's text on the same function of another seat). -/
import Derived.Test.YtojocffjajcdmaaDoorMT
import Derived.Deep.AppendLies
import Derived.Deep.RegionHeldLaw
import Derived.Laws.OwnMore
namespace Go.Proofs.YtojocffjajcdmaaDoor.RS
open Go.RowKit Go.Proofs.YtojocffjajcdmaaDoor Go.Proofs.YtojocffjajcdmaaDoorW.PrintWords Go.Proofs.YtojocffjajcdmaaDoorW.PrintLast Go.Proofs.YtojocffjajcdmaaDoorW.PrintMore PChunkAll
set_option linter.unusedVariables false
set_option linter.unusedSimpArgs false

structure Ent where
  s : Int
  t : Int
  A : Option Addr
  n : Nat
  c : Nat
  x : ByteArray
abbrev Ent.cells (e : Ent) : Array Value := #[.int .i64 e.s, .int .i64 e.t, .slice e.A e.n e.c, .string e.x]
instance : Inhabited Ent := ⟨⟨0, 0, none, 0, 0, ⟨#[]⟩⟩⟩
structure EntCells (w : World) (b o : Nat) (e : Ent) : Prop where
  c0 : w.cell? ⟨b, o, none⟩ = some (.int .i64 e.s)
  c1 : w.cell? ⟨b, o + 1, none⟩ = some (.int .i64 e.t)
  c2 : w.cell? ⟨b, o + 2, none⟩ = some (.slice e.A e.n e.c)
  c3 : w.cell? ⟨b, o + 3, none⟩ = some (.string e.x)
theorem keepc {w w' : World} {a : Addr} {v : Value} (hb : Below w.heap.size w w') (h : w.cell? a = some v) : w'.cell? a = some v :=
  (hb.cell (block_lt_of_cell h)).trans h

theorem undrew {w w2 : World} (h : Below w.drew.heap.size w.drew w2) : Below w.heap.size w w2 := ⟨h.os, h.tape, h.output, h.size, h.block⟩
theorem thenB {w0 w w2 : World} (h : Below w0.heap.size w0 w) (h2 : Below w.heap.size w w2) : Below w0.heap.size w0 w2 := h.trans (h2.mono h.size)
abbrev RowCells := RowC
def ecells (es : List Ent) : List Value := es.flatMap fun e => e.cells.toList
theorem ecells_length (es : List Ent) : (ecells es).length = es.length * 4 := by
  induction es with
  | nil => rfl
  | cons a l ih => rw [show ecells (a :: l) = a.cells.toList ++ ecells l from rfl, List.length_append, ih]; simp; omega
theorem ecells_one (es : List Ent) : ∀ u ∈ ecells es, u.oneCell' = true := by
  intro u hu
  obtain ⟨e, _, he⟩ := List.mem_flatMap.1 hu
  simp at he
  rcases he with rfl | rfl | rfl | rfl <;> rfl
theorem ecells_get (es : List Ent) (i : Nat) (h : i < es.length) : (ecells es)[i * 4]? = some (.int .i64 es[i].s) ∧ (ecells es)[i * 4 + 1]? = some (.int .i64 es[i].t) ∧ (ecells es)[i * 4 + 2]? = some (.slice es[i].A es[i].n es[i].c) ∧ (ecells es)[i * 4 + 3]? = some (.string es[i].x) := by
  induction es generalizing i with
  | nil => simp at h
  | cons a l ih =>
    have e : ecells (a :: l) = .int .i64 a.s :: .int .i64 a.t :: .slice a.A a.n a.c :: .string a.x :: ecells l := rfl
    cases i with
    | zero => rw [e]; simp
    | succ i =>
      have := ih i (by simpa using h)
      rw [e, show (i + 1) * 4 = i * 4 + 1 + 1 + 1 + 1 from by omega]
      simpa using this

theorem ecells_cons (a : Ent) (l : List Ent) : ecells (a :: l) = .int .i64 a.s :: .int .i64 a.t :: .slice a.A a.n a.c :: .string a.x :: ecells l := by simp [ecells]
theorem entCells_of {w : World} {b o : Nat} {es : List Ent} (hc : ∀ j u, (ecells es)[j]? = some u → w.cell? ⟨b, o + j, none⟩ = some u) (i : Nat) (h : i < es.length) : EntCells w b (o + i * 4) es[i] := by
  obtain ⟨a0, a1, a2, a3⟩ := ecells_get es i h
  exact ⟨hc _ _ a0, by have := hc _ _ a1; rwa [← Nat.add_assoc] at this, by have := hc _ _ a2; rwa [← Nat.add_assoc] at this, by have := hc _ _ a3; rwa [← Nat.add_assoc] at this⟩

theorem own_ecells {w : World} {base g n c m : Nat} {es : List Ent} (h : w.ownsRow base 33 4 (.slice (some ⟨g, 0, none⟩) n c) m (ecells es)) (i : Nat) (hi : i < es.length) : EntCells w g (i * 4) es[i] := by
  have := entCells_of (w := w) (b := g) (o := 0) (es := es) (fun j u hu => by
    have := h.cells (g := g) rfl j u hu
    rwa [addr_add] at this) i hi
  simpa using this

theorem own_at {w : World} {base n c m size : Nat} {A : Option Addr} {e : TypeId} {xs : List Value} (h : w.ownsRow base e size (.slice A n c) m xs) (hp : 0 < m) : ∃ g, A = some ⟨g, 0, none⟩ ∧ base ≤ g ∧ ∃ cur, w.heap[g]? = some (.cells cur e (0, 0)) := by
  rcases h.2 with ⟨hv, h0⟩ | ⟨g, cap, cur, hv, hb, hg, _⟩
  · omega
  · injection hv with h1
    exact ⟨g, h1, hb, cur, hg⟩

theorem own_cap {w : World} {base n c m size : Nat} {A : Option Addr} {e : TypeId} {xs : List Value} (h : w.ownsRow base e size (.slice A n c) m xs) : n ≤ c := by
  rcases h.2 with ⟨hv, h0⟩ | ⟨g, cap, cur, hv, hb, hg, hc, _⟩
  · injection hv with _ h2 h3; omega
  · injection hv with _ h2 h3; omega
theorem own_nilcap {w : World} {base n c : Nat} {A : Option Addr} {e : TypeId} {size : Nat} {xs : List Value} (h : w.ownsRow base e size (.slice A n c) n xs) : A = none → c = 0 := by
  rintro rfl
  rcases h.2 with ⟨hv, h0⟩ | ⟨g, cap, cur, hv, _⟩
  · injection hv
  · injection hv with h1; cases h1
theorem own_rowCells {w : World} {base n c : Nat} {A : Option Addr} {e : TypeId} {size : Nat} {xs : List Value} (h : w.ownsRow base e size (.slice A n c) n xs) : RowCells w A xs := own_rowC h
theorem own_sl {w : World} {base n : Nat} {e : TypeId} {size : Nat} {v : Value} {xs : List Value} (h : w.ownsRow base e size v n xs) : ∃ A c, v = .slice A n c := by
  rcases h.2 with ⟨rfl, rfl⟩ | ⟨g, cap, cur, rfl, _⟩
  · exact ⟨none, 0, rfl⟩
  · exact ⟨_, cap, rfl⟩
structure KeepF (w w' : World) (F : Nat → Prop) : Prop where
  os : w'.os = w.os
  tape : w'.tape = w.tape
  output : w'.output = w.output
  size : w.heap.size ≤ w'.heap.size
  block : ∀ k, k < w.heap.size → ¬ F k → w'.heap[k]? = w.heap[k]?
theorem KeepF.refl (w : World) (F : Nat → Prop) : KeepF w w F := ⟨rfl, rfl, rfl, Nat.le_refl _, fun _ _ _ => rfl⟩
theorem KeepF.of_below {w w' : World} (h : Below w.heap.size w w') (F : Nat → Prop) : KeepF w w' F := ⟨h.os, h.tape, h.output, h.size, fun k hk _ => h.block k hk⟩
theorem ownsRow_lower {w : World} {b b' : Nat} {e : TypeId} {size : Nat} {v : Value} {n : Nat} {xs : List Value} (h : w.ownsRow b e size v n xs) (hb : b' ≤ b) : w.ownsRow b' e size v n xs := by
  refine ⟨h.1, ?_⟩
  rcases h.2 with h' | ⟨g, cap, cur, rfl, hb2, r⟩
  · exact .inl h'
  · exact .inr ⟨g, cap, cur, rfl, Nat.le_trans hb hb2, r⟩
theorem ownsRow_keepF {w w' : World} {F : Nat → Prop} {b : Nat} {e : TypeId} {size : Nat} {v : Value} {n : Nat} {xs : List Value} (h : w.ownsRow b e size v n xs) (k : KeepF w w' F) (hF : ∀ q, v.ownBlock = some q → ¬ F q) : w'.ownsRow b e size v n xs := by
  refine ⟨h.1, ?_⟩
  rcases h.2 with h' | ⟨g, cap, cur, rfl, hb2, hg, r⟩
  · exact .inl h'
  · exact .inr ⟨g, cap, cur, rfl, hb2, (k.block g (Array.getElem?_eq_some_iff.1 hg).1 (hF g rfl)).trans hg, r⟩
theorem _root_.Go.World.ownsRow.drew2 {w : World} {base : Nat} {e : TypeId} {size : Nat} {v : Value} {n : Nat} {xs : List Value} (h : w.ownsRow base e size v n xs) : w.drew.ownsRow base e size v n xs := h
theorem rowCells_blk {w : World} {b t : Nat} {cs : Array Value} (h : Blk w b cs t) : RowCells w (some ⟨b, 0, none⟩) cs.toList := fun _ =>
  ⟨b, 0, rfl, fun j u hu => by rw [Nat.zero_add]; exact h.cell j u (by simpa using hu)⟩

theorem wrap_in (n : Int) (h0 : -9223372036854775808 ≤ n) (h1 : n ≤ 9223372036854775807) : IntKind.i64.wrap n = n := IntWalk.i64_in n ⟨h0, h1⟩
theorem before_of {s t s' t' : Int} {b : Bool} (h : b = true ↔ t < t' ∨ (t = t' ∧ s < s')) : beforeE s t s' t' = b := by
  rw [Bool.eq_iff_iff, h]; unfold beforeE; rw [decide_eq_true_iff, cmpE_lt]

set_option maxHeartbeats 400000 in
theorem rbefore_any (s1 t1 s2 t2 : Int) (l1 l2 n1 n2 : Value) (w : World) :
    Calls Tryd.prog 52 #[.agg #[.int .i64 s1, .int .i64 t1, l1, n1], .agg #[.int .i64 s2, .int .i64 t2, l2, n2]] w
      fun e w' => e = .returned (.bool (beforeE s1 t1 s2 t2)) ∧ Below w.heap.size w w' := by
  have hbB : Below w.heap.size w ((w.alloc (.cells #[.int .i64 s1, .int .i64 t1, l1, n1] 33)).alloc (.cells #[.int .i64 s2, .int .i64 t2, l2, n2] 33)) := ((Below.refl _ _).alloc (Nat.le_refl _) _).alloc (by simp) _
  by_cases h1 : t1 < t2
  · have hr : beforeE s1 t1 s2 t2 = true := before_of (by simp [h1])
    have HR := Lib.hid hr; clear hr
    go_enter Tryd.func52, Tryd.ntmps52
    go_wp2
    go_ret
    exact ⟨by rw [HR.out]; rfl, hbB⟩
  · by_cases h2 : t1 = t2
    · have h2' : (t1 == t2) = true := by simpa using h2
      by_cases h3 : s1 < s2
      · have hr : beforeE s1 t1 s2 t2 = true := before_of (by simp [h2, h3])
        have HR := Lib.hid hr; clear hr h2
        go_enter Tryd.func52, Tryd.ntmps52
        go_wp2
        go_ret
        exact ⟨by rw [HR.out]; rfl, hbB⟩
      · have hr : beforeE s1 t1 s2 t2 = false := before_of (by simp [h2, h3])
        have HR := Lib.hid hr; clear hr h2
        go_enter Tryd.func52, Tryd.ntmps52
        go_wp2
        go_ret
        exact ⟨by rw [HR.out]; rfl, hbB⟩
    · have h2' : (t1 == t2) = false := by simpa using h2
      have hr : beforeE s1 t1 s2 t2 = false := before_of (by simp; omega)
      have HR := Lib.hid hr; clear hr h2
      go_enter Tryd.func52, Tryd.ntmps52
      go_wp2
      go_ret
      exact ⟨by rw [HR.out]; rfl, hbB⟩

/-- append at a step of a region that draws, whatever is appended. -/
theorem step_append_row {P : Program} (w : World) {ops : Array Oper} {o : Oper} {a : Act} {K : Act → World → Prop} {Q : Exit → Act → World → Prop} {E : Prop} (hgd : o.guard = none) (s x : Operand) (t : TypeId)
    (ho : o.op = .call { callee := .builtin .append, args := #[s, x], argTypes := #[t, t] })
    (base : Nat) (e : TypeId) (i : TypeInfo) (z : Value) (size bytes : Nat) (ht : P.underlying t = some (.slice e)) (hi : P.info? e = some i) (hz : i.zero = some z)
    (hsize : i.size = size) (hby : i.bytes = bytes) (hzs : z.cells.size = size) (hsz : 0 < size)
    (v : Value) (n : Nat) (xs : List Value) (hs : a.eval s = v) (hown : w.ownsRow base e size v n xs)
    (A : Option Addr) (m c : Nat) (news : List Value) (hx : a.eval x = .slice A m c) (hA : A = none → c = 0) (hmc : m ≤ c) (hl : news.length = m * size) (hnews : RowCells w A news) (h1 : ∀ u ∈ news, u.oneCell' = true)
    (h63 : n + m ≤ maxLen) (hbytes : (n + m) * bytes ≤ 140737488355328) (hbase : base ≤ w.heap.size)
    (h : ∀ v' w', w'.ownsRow base e size v' (n + m) (xs ++ news) → w.grownBy w' v.ownBlock → K (a.put o.dst v') w') :
    if Region.wanted o (yielded ops a.tmps) = true then Oper.wp P o a w K Q else E := by
  have hw : Region.wanted o (yielded ops a.tmps) = true := by simp [Region.wanted, hgd]
  rw [if_pos hw]
  rcases A with _ | ad
  · obtain rfl : c = 0 := hA rfl
    obtain rfl : m = 0 := by omega
    have hn : news = [] := List.eq_nil_of_length_eq_zero (by simpa using hl)
    subst hn
    have hrun := run_append_owned_none (P := P) (w := w) base t o.type e i size ht hi v n xs hown
    unfold Oper.wp
    simp [execOp, ho, resolve, invoke, builtin, hs, hx, hrun, Result.andThen]
    exact h v w (by simpa using hown) ⟨rfl, rfl, rfl, Nat.le_refl _, fun k _ _ => rfl⟩
  · exact wp_append_own w s x t ho base e i z size bytes ht hi hz hsize hby hzs hsz v n xs hs hown ad m c news hx hl (fun j u hu => by
      have hj := (List.getElem?_eq_some_iff.1 hu).1
      obtain ⟨b, o', e', hc⟩ := hnews (by omega)
      cases e'
      rw [addr_add]
      exact hc j u hu) h1 h63 hbytes hbase (fun v' w' h2 h3 _ => h v' w' h2 h3)

theorem own_made' {W : World} {B n : Nat} (hB : B ≤ W.heap.size) (hn : n = W.heap.size) : (W.alloc (.cells #[] 33)).ownsRow B 33 4 (.slice (some ⟨n, 0, none⟩) 0 0) 0 [] := by
  subst hn
  exact World.ownsRow_made W #[] 0 (base := B) (e := 33) (size := 4) hB (by unfold maxLen; omega) rfl

theorem ecells_take (es : List Ent) : ∀ n, ecells (es.take n) = (ecells es).take (n * 4) := by
  induction es with
  | nil => intro n; simp [ecells]
  | cons a l ih =>
    intro n
    cases n with
    | zero => simp [ecells]
    | succ n => rw [List.take_succ_cons, ecells_cons, ecells_cons, ih, show (n + 1) * 4 = n * 4 + 1 + 1 + 1 + 1 from by omega]; simp
theorem ecells_drop (es : List Ent) : ∀ n, ecells (es.drop n) = (ecells es).drop (n * 4) := by
  induction es with
  | nil => intro n; simp [ecells]
  | cons a l ih =>
    intro n
    cases n with
    | zero => simp
    | succ n => rw [List.drop_succ_cons, ecells_cons, ih, show (n + 1) * 4 = n * 4 + 1 + 1 + 1 + 1 from by omega]; simp
theorem RowCells.take {w : World} {A : Option Addr} {es : List Ent} (h : RowCells w A (ecells es)) (n : Nat) : RowCells w A (ecells (es.take n)) := fun hp => by
  rw [ecells_take] at hp
  obtain ⟨b, o, e1, hc⟩ := h (by rw [List.length_take] at hp; omega)
  refine ⟨b, o, e1, fun j u hu => hc j u ?_⟩
  rw [ecells_take, List.getElem?_take] at hu
  split at hu
  · exact hu
  · cases hu
theorem rowCells_drop {w : World} {b o : Nat} {es : List Ent} (h : RowCells w (some ⟨b, o, none⟩) (ecells es)) (n : Nat) : RowCells w (some ⟨b, o + n * 4, none⟩) (ecells (es.drop n)) := fun hp => by
  rw [ecells_drop] at hp
  obtain ⟨b', o', e1, hc⟩ := h (by rw [List.length_drop] at hp; omega)
  injection e1 with e1; injection e1 with e1 e2
  subst e1; subst e2
  refine ⟨b, o + n * 4, rfl, fun j u hu => ?_⟩
  rw [ecells_drop, List.getElem?_drop] at hu
  have := hc _ u hu
  rwa [← Nat.add_assoc] at this
theorem rowCells_new {w : World} {cs : Array Value} {t n : Nat} (hn : n = w.heap.size) : RowCells (w.alloc (.cells cs t)) (some ⟨n, 0, none⟩) cs.toList := rowCells_blk (Blk.new w cs t n hn)
theorem rowCells_grown {w w' : World} {b t : Nat} {cs : Array Value} {row : Option Nat} (h : Blk w b cs t) (hg : w.grownBy w' row) (hne : row ≠ some b) : RowCells w' (some ⟨b, 0, none⟩) cs.toList :=
  rowCells_blk (w := w') (t := t) ⟨(hg.block b h.lt (fun e => hne e.symm)).trans h.out⟩

def bef (a b : Ent) : Bool := beforeE a.s a.t b.s b.t
def posF (x : Ent) (out : List Ent) : Nat → Nat
  | 0 => 0
  | k + 1 => if bef x (out.getD k default) then posF x out k else k + 1
theorem posF_le (x : Ent) (out : List Ent) : ∀ k, posF x out k ≤ k
  | 0 => Nat.le_refl _
  | k + 1 => by
    rw [posF]
    split
    · exact Nat.le_succ_of_le (posF_le x out k)
    · exact Nat.le_refl _
def insE (out : List Ent) (x : Ent) : List Ent := out.take (posF x out out.length) ++ x :: out.drop (posF x out out.length)
def sortR (es : List Ent) : List Ent := es.foldl insE []
theorem insE_length (out : List Ent) (x : Ent) : (insE out x).length = out.length + 1 := by
  have := posF_le x out out.length
  simp [insE]; omega
theorem foldl_length (es : List Ent) : ∀ out, (es.foldl insE out).length = out.length + es.length := by
  induction es with
  | nil => intro out; simp
  | cons a l ih => intro out; rw [List.foldl_cons, ih, insE_length]; simp; omega
theorem sortR_length (es : List Ent) : (sortR es).length = es.length := by simp [sortR, foldl_length]
theorem sortR_succ (es : List Ent) (k : Nat) (h : k < es.length) : sortR (es.take (k + 1)) = insE (sortR (es.take k)) es[k] := by
  rw [sortR, List.take_succ_eq_append_getElem h, List.foldl_append]; rfl

theorem ins_own {W : World} {base k m : Nat} {v : Value} {out : List Ent} {x : Ent} (hl : out.length = k) (hp : posF x out k = m) (hm : m ≤ k)
    (h : W.ownsRow base 33 4 v (0 + m + 1 + (k - m)) ((([] ++ ecells (out.take m)) ++ [.int .i64 x.s, .int .i64 x.t, .slice x.A x.n x.c, .string x.x]) ++ ecells (out.drop m))) : W.ownsRow base 33 4 v (k + 1) (ecells (insE out x)) := by
  have e : ecells (insE out x) = (([] ++ ecells (out.take m)) ++ [.int .i64 x.s, .int .i64 x.t, .slice x.A x.n x.c, .string x.x]) ++ ecells (out.drop m) := by
    rw [insE, hl, hp]
    simp [ecells]
  rw [e]
  have e2 : 0 + m + 1 + (k - m) = k + 1 := by omega
  rw [e2] at h
  exact h
theorem own_addr {w : World} {base n c m size : Nat} {ad : Addr} {e : TypeId} {xs : List Value} (h : w.ownsRow base e size (.slice (some ad) n c) m xs) : ∃ g, ad = ⟨g, 0, none⟩ := by
  rcases h.2 with ⟨hv, h0⟩ | ⟨g, cap, cur, hv, _⟩
  · cases hv
  · injection hv with h1
    injection h1 with h1
    exact ⟨g, h1⟩
def SortRel (w : World) (es : List Ent) (v4 v3 : Value) (wr : World) : Prop :=
  ∃ k : Nat, v4 = .int .i64 k ∧ k ≤ es.length ∧ wr.ownsRow w.heap.size 33 4 v3 k (ecells (sortR (es.take k))) ∧ Below w.heap.size w wr
def RSortPost (w : World) (es : List Ent) (r : Ending) (w' : World) : Prop :=
  ∃ v, r = .returned v ∧ w'.ownsRow w.heap.size 33 4 v es.length (ecells (sortR es)) ∧ Below w.heap.size w w'

set_option maxHeartbeats 2000000 in
theorem rsort50 (A : Option Addr) (c : Nat) (es : List Ent) (w : World) (hr : RowCells w A (ecells es)) (hs : es.length ≤ 2513169434916) :
    Calls Tryd.prog 50 #[.slice A es.length c] w (RSortPost w es) := by
  obtain ⟨i0, hi0, hz0, hz1, hz2⟩ := info_parts info33
  go_enter Tryd.func50, Tryd.ntmps50
  go_wp2
  go_loopw [4, 3] (fun v4 v3 wr => SortRel w es v4 v3 wr) (fun v4 _ _ => es.length - (intOf v4).toNat)
  case atStart => exact ⟨0, rfl, Nat.zero_le _, World.ownsRow_nil _ _ _ _, Below.refl _ _⟩
  case round =>
    obtain ⟨k, rfl, hk, ho, hb⟩ := hrel
    obtain ⟨Ao, co, rfl⟩ := own_sl ho
    by_cases hlt : k < es.length
    · obtain ⟨b, o, rfl, hc⟩ := hr (by rw [ecells_length]; omega)
      have HC := Lib.hid (fun w' (hb' : Below w.heap.size w w') => entCells_of (fun j u hu => keepc hb' (hc j u hu)) k hlt)
      have HE := Lib.hid (sortR_succ es k hlt)
      have HL : Hid ((sortR (es.take k)).length = k) := Lib.hid (by rw [sortR_length, List.length_take]; omega)
      have hi1 : (k : Int) < (es.length : Int) := by omega
      have HO := Lib.hid ho
      clear hc hr ho
      generalize sortR (es.take k) = out at *
      generalize es[k] = x at *
      obtain ⟨wo, rfl⟩ : ∃ wo : World, wo = wr := ⟨_, rfl⟩
      go_wp2_with fail
      go_loopw [5] (fun v5 wi => ∃ j : Nat, v5 = .int .i64 j ∧ j ≤ k ∧ posF x out k = posF x out j ∧ Below wo.heap.size wo wi) (fun v5 _ => (intOf v5).toNat)
      case atStart => exact ⟨k, rfl, Nat.le_refl _, rfl, Below.refl _ _⟩
      case round =>
        obtain ⟨j, rfl, hj, hp, hbi⟩ := hrel
        have HP := Lib.hid hp; clear hp
        have hbw := thenB hb hbi
        obtain ⟨p0, p1, p2, p3⟩ := HC.out wr hbw
        rcases Nat.eq_zero_or_pos j with h0 | hj0
        · subst h0
          go_wp2_with fail
          go_region
          obtain ⟨p, hp0, hpz⟩ : ∃ p : Nat, ((0 : Nat) : Int) = (p : Int) ∧ p = 0 := ⟨0, rfl, rfl⟩
          rw [hp0]
          have HFP : Hid (posF x out k = p) := Lib.hid (by rw [HP.out, hpz]; rfl)
          have hm4 : p ≤ k := by omega
          have hcap := own_cap HO.out
          have hm5 : p ≤ co := by omega
          have hb22 : Below wr.heap.size wr wr.drew := (Below.refl _ _).drew
          have hbw2 : Below w.heap.size w wr.drew := hbw.drew
          have hbi2 : Below wo.heap.size wo wr.drew := hbi.drew
          have q0 := HC.out wr.drew hbw2
          have HO2 := Lib.hid (ownsRow_keepF HO.out (KeepF.of_below hbi (fun _ => False)) (fun _ _ h => h))
          clear p0 p1 p2 p3 hp0
          generalize wr.drew = w2 at *
          obtain ⟨p0, p1, p2, p3⟩ := q0
          have hm1 : (p : Int) ≤ (k : Int) := by omega
          have hm2 : (p : Int) ≤ (co : Int) := by omega
          rcases Ao with _ | ad
          · have hc0 : co = 0 := own_nilcap HO2.out rfl
            have hout : out = [] := List.eq_nil_of_length_eq_zero (by have := HL.out; omega)
            have hco1 : co - p = 0 := by omega
            have hco2 : co = p := by omega
            have hdn : out.drop p = [] := by rw [hout]; simp
            have HCO := Lib.hid hc0
            have HT1 : Hid (∀ W, Below w2.heap.size w2 W → RowCells W none (ecells (out.take p))) := Lib.hid (fun W _ hp => by rw [hout] at hp; simp [ecells] at hp)
            have HT3 : Hid (∀ W, Below w2.heap.size w2 W → RowCells W none (ecells (out.drop p))) := Lib.hid (fun W _ hp => by rw [hdn] at hp; simp [ecells] at hp)
            clear hc0 hout
            have HZ := Lib.hid hpz
            clear hpz
            have HSS : ∀ w', Below w2.heap.size w2 w' → (w'.cell? ⟨b, o + k * 4, none⟩ = some (.int .i64 x.s) ∧ w'.cell? ⟨b, o + k * 4 + 1, none⟩ = some (.int .i64 x.t) ∧ w'.cell? ⟨b, o + k * 4 + 2, none⟩ = some (.slice x.A x.n x.c) ∧ w'.cell? ⟨b, o + k * 4 + 3, none⟩ = some (.string x.x) ∧ Below w2.heap.size w2 w') :=
              fun w' hK => ⟨keepc hK p0, keepc hK p1, keepc hK p2, keepc hK p3, hK⟩
            all_goals go_wp2_with fail
            all_goals go_region_held_law (fun w' => w'.cell? ⟨b, o + k * 4, none⟩ = some (.int .i64 x.s) ∧ w'.cell? ⟨b, o + k * 4 + 1, none⟩ = some (.int .i64 x.t) ∧ w'.cell? ⟨b, o + k * 4 + 2, none⟩ = some (.slice x.A x.n x.c) ∧ w'.cell? ⟨b, o + k * 4 + 3, none⟩ = some (.string x.x) ∧ Below w2.heap.size w2 w')
              (first
                | exact HSS _ (Below.refl _ _)
                | exact HSS _ (Below.refl _ _).drew
                | exact HSS _ hB8 | exact HSS _ hB7 | exact HSS _ hB6 | exact HSS _ hB7.drew | exact HSS _ hB6.drew
                | exact HSS _ ((Below.refl _ _).alloc (Nat.le_refl _) _).drew
                | exact HSS _ (((Below.refl _ _).alloc (Nat.le_refl _) _).alloc (by simp) _).drew
                | exact HSS _ (hB6.alloc hB6.size _).drew
                | exact HSS _ (hB6.alloc hB6.size _))
              (first
                | (refine step_append_row _ rfl (.tmp 30) (.tmp 33) 22 rfl w2.heap.size 33 i0 _ 4 56 Tryd.underlying22 hi0 hz0 hz1 hz2 rfl (by decide) _ 0 [] rfl
                    (by first | exact (own_made' (Nat.le_refl _) rfl).drew2 | exact ((own_made' (Nat.le_refl _) rfl).alloc _).drew2 | exact (own_made' (by simp) (by simp)).drew2)
                    _ _ _ (ecells (out.take p)) rfl (by intro _; have := HCO.out; omega) (by omega) (by rw [ecells_length, List.length_take]; have := HL.out; omega)
                    (by first | exact HT1.out _ ((Below.refl _ _).alloc (Nat.le_refl _) _).drew | exact HT1.out _ (((Below.refl _ _).alloc (Nat.le_refl _) _).alloc (by simp) _).drew)
                    (ecells_one _) (by unfold maxLen; omega) (by omega) (by simp only [World.size_alloc, World.size_drew]; omega) ?_
                   intro v6 w6 hown6 hgrow6
                   have hB6 : Below w2.heap.size w2 w6 := by
                     first
                       | exact ((Below.refl _ _).alloc (Nat.le_refl _) _).drew.grown hgrow6 (by simp only [World.size_alloc, World.size_drew]; omega) (by intro q hq; simp [Value.ownBlock, Act.eval, Act.put] at hq; omega)
                       | exact (((Below.refl _ _).alloc (Nat.le_refl _) _).alloc (by simp) _).drew.grown hgrow6 (by simp only [World.size_alloc, World.size_drew]; omega) (by intro q hq; simp [Value.ownBlock, Act.eval, Act.put] at hq; omega))
                | (refine step_append_row _ rfl (.tmp 34) (.tmp 39) 22 rfl w2.heap.size 33 i0 _ 4 56 Tryd.underlying22 hi0 hz0 hz1 hz2 rfl (by decide) _ (0 + p) ([] ++ ecells (out.take p)) rfl
                    (by first | exact hown6 | exact hown6.alloc _ | exact (hown6.alloc _).drew2 | exact hown6.drew2)
                    _ 1 1 [.int .i64 x.s, .int .i64 x.t, .slice x.A x.n x.c, .string x.x] rfl (by intro e; cases e) (Nat.le_refl _) rfl
                    (by first
                      | exact rowCells_new (cs := #[.int .i64 x.s, .int .i64 x.t, .slice x.A x.n x.c, .string x.x]) rfl
                      | exact rowCells_grown (cs := #[.int .i64 x.s, .int .i64 x.t, .slice x.A x.n x.c, .string x.x]) (t := 33) ((Blk.new _ _ _ _ (by simp)).drew) hgrow6 (by simp [Value.ownBlock, Act.eval, Act.put])
                      | exact rowCells_grown (cs := #[.int .i64 x.s, .int .i64 x.t, .slice x.A x.n x.c, .string x.x]) (t := 33) (((Blk.new _ _ _ _ (by simp)).alloc _).drew) hgrow6 (by simp [Value.ownBlock, Act.eval, Act.put]))
                    (by simp [Value.oneCell']) (by unfold maxLen; omega) (by omega) (by have := hB6.size; simp <;> omega) ?_
                   intro v7 w7 hown7 hgrow7
                   have hB7 : Below w2.heap.size w2 w7 := by
                     first
                       | exact hB6.grown hgrow7 hB6.size (fun q hq => (hown6.lt q hq).1)
                       | exact (hB6.alloc hB6.size _).grown hgrow7 (by have := hB6.size; simp; omega) (fun q hq => (hown6.lt q hq).1))
                | (refine step_append_row _ rfl (.tmp 40) (.tmp 43) 22 rfl w2.heap.size 33 i0 _ 4 56 Tryd.underlying22 hi0 hz0 hz1 hz2 rfl (by decide) _ (0 + p + 1) _ rfl
                    hown7 _ _ _ (ecells (out.drop p)) rfl (by intro _; have := HCO.out; omega) (by omega) (by rw [ecells_length, List.length_drop, HL.out])
                    (by first | exact HT3.out _ hB7 | (have := HT3.out _ hB7; simpa using this) | (exact fun hp => by rw [hdn] at hp; simp [ecells] at hp)) (ecells_one _) (by unfold maxLen; omega) (by omega) hB7.size ?_
                   intro v8 w8 hown8 hgrow8
                   have hB8 : Below w2.heap.size w2 w8 := hB7.grown hgrow8 hB7.size (fun q hq => (hown7.lt q hq).1)))
            all_goals
              have hfin := ins_own HL.out HFP.out hm4 hown8
              have hbf := hbw2.trans (hB8.mono hbw2.size)
              have hfin2 := Lib.hid (ownsRow_lower hfin hbw2.size)
              clear hown8 hown7 hown6 hgrow8 hgrow7 hgrow6 hB6 hB7 hB8 hfin
              go_wp2_with fail
              go_roundw
              case rel => exact ⟨k + 1, by go_num, by omega, by rw [HE.out]; exact hfin2.out, hbf⟩
              case measure => simp [intOf]; omega
          · obtain ⟨g, eg⟩ : ∃ g, ad = ⟨g, 0, none⟩ := own_addr HO2.out
            subst eg
            have HZ := Lib.hid hpz
            clear hpz
            have HSS : ∀ w', Below w2.heap.size w2 w' → (w'.cell? ⟨b, o + k * 4, none⟩ = some (.int .i64 x.s) ∧ w'.cell? ⟨b, o + k * 4 + 1, none⟩ = some (.int .i64 x.t) ∧ w'.cell? ⟨b, o + k * 4 + 2, none⟩ = some (.slice x.A x.n x.c) ∧ w'.cell? ⟨b, o + k * 4 + 3, none⟩ = some (.string x.x) ∧ Below w2.heap.size w2 w') :=
              fun w' hK => ⟨keepc hK p0, keepc hK p1, keepc hK p2, keepc hK p3, hK⟩
            have HO3 := Lib.hid (ownsRow_keepF HO2.out (KeepF.of_below hb22 (fun _ => False)) (fun _ _ h => h))
            have HT1 := Lib.hid (fun W (hW : Below w2.heap.size w2 W) => ((own_rowCells HO3.out).take p).below hW)
            have HT3 := Lib.hid (fun W (hW : Below w2.heap.size w2 W) => (rowCells_drop (own_rowCells HO3.out) p).below hW)
            have hdd : (co - p = 0 ∧ co = p ∧ out.drop p = []) ∨ (¬ (co - p = 0) ∧ ¬ (co = p)) := by
              have := HL.out
              by_cases hco : p = co
              · exact .inl ⟨by omega, by omega, List.drop_eq_nil_of_le (by omega)⟩
              · exact .inr ⟨by omega, by omega⟩
            rcases hdd with ⟨hco1, hco2, hdn⟩ | ⟨hco1, hco2⟩
            all_goals go_wp2_with fail
            all_goals go_region_held_law (fun w' => w'.cell? ⟨b, o + k * 4, none⟩ = some (.int .i64 x.s) ∧ w'.cell? ⟨b, o + k * 4 + 1, none⟩ = some (.int .i64 x.t) ∧ w'.cell? ⟨b, o + k * 4 + 2, none⟩ = some (.slice x.A x.n x.c) ∧ w'.cell? ⟨b, o + k * 4 + 3, none⟩ = some (.string x.x) ∧ Below w2.heap.size w2 w')
              (first
                | exact HSS _ (Below.refl _ _)
                | exact HSS _ (Below.refl _ _).drew
                | exact HSS _ hB8 | exact HSS _ hB7 | exact HSS _ hB6 | exact HSS _ hB7.drew | exact HSS _ hB6.drew
                | exact HSS _ ((Below.refl _ _).alloc (Nat.le_refl _) _).drew
                | exact HSS _ (((Below.refl _ _).alloc (Nat.le_refl _) _).alloc (by simp) _).drew
                | exact HSS _ (hB6.alloc hB6.size _).drew
                | exact HSS _ (hB6.alloc hB6.size _))
              (first
                | (refine step_append_row _ rfl (.tmp 30) (.tmp 33) 22 rfl w2.heap.size 33 i0 _ 4 56 Tryd.underlying22 hi0 hz0 hz1 hz2 rfl (by decide) _ 0 [] rfl
                    (by first | exact (own_made' (Nat.le_refl _) rfl).drew2 | exact ((own_made' (Nat.le_refl _) rfl).alloc _).drew2 | exact (own_made' (by simp) (by simp)).drew2)
                    _ _ _ (ecells (out.take p)) rfl (by intro e; cases e) (by omega) (by rw [ecells_length, List.length_take]; have := HL.out; omega)
                    (by first | exact HT1.out _ ((Below.refl _ _).alloc (Nat.le_refl _) _).drew | exact HT1.out _ (((Below.refl _ _).alloc (Nat.le_refl _) _).alloc (by simp) _).drew)
                    (ecells_one _) (by unfold maxLen; omega) (by omega) (by simp only [World.size_alloc, World.size_drew]; omega) ?_
                   intro v6 w6 hown6 hgrow6
                   have hB6 : Below w2.heap.size w2 w6 := by
                     first
                       | exact ((Below.refl _ _).alloc (Nat.le_refl _) _).drew.grown hgrow6 (by simp only [World.size_alloc, World.size_drew]; omega) (by intro q hq; simp [Value.ownBlock, Act.eval, Act.put] at hq; omega)
                       | exact (((Below.refl _ _).alloc (Nat.le_refl _) _).alloc (by simp) _).drew.grown hgrow6 (by simp only [World.size_alloc, World.size_drew]; omega) (by intro q hq; simp [Value.ownBlock, Act.eval, Act.put] at hq; omega))
                | (refine step_append_row _ rfl (.tmp 34) (.tmp 39) 22 rfl w2.heap.size 33 i0 _ 4 56 Tryd.underlying22 hi0 hz0 hz1 hz2 rfl (by decide) _ (0 + p) ([] ++ ecells (out.take p)) rfl
                    (by first | exact hown6 | exact hown6.alloc _ | exact (hown6.alloc _).drew2 | exact hown6.drew2)
                    _ 1 1 [.int .i64 x.s, .int .i64 x.t, .slice x.A x.n x.c, .string x.x] rfl (by intro e; cases e) (Nat.le_refl _) rfl
                    (by first
                      | exact rowCells_new (cs := #[.int .i64 x.s, .int .i64 x.t, .slice x.A x.n x.c, .string x.x]) rfl
                      | exact rowCells_grown (cs := #[.int .i64 x.s, .int .i64 x.t, .slice x.A x.n x.c, .string x.x]) (t := 33) ((Blk.new _ _ _ _ (by simp)).drew) hgrow6 (by simp [Value.ownBlock, Act.eval, Act.put])
                      | exact rowCells_grown (cs := #[.int .i64 x.s, .int .i64 x.t, .slice x.A x.n x.c, .string x.x]) (t := 33) (((Blk.new _ _ _ _ (by simp)).alloc _).drew) hgrow6 (by simp [Value.ownBlock, Act.eval, Act.put]))
                    (by simp [Value.oneCell']) (by unfold maxLen; omega) (by omega) (by have := hB6.size; simp <;> omega) ?_
                   intro v7 w7 hown7 hgrow7
                   have hB7 : Below w2.heap.size w2 w7 := by
                     first
                       | exact hB6.grown hgrow7 hB6.size (fun q hq => (hown6.lt q hq).1)
                       | exact (hB6.alloc hB6.size _).grown hgrow7 (by have := hB6.size; simp; omega) (fun q hq => (hown6.lt q hq).1))
                | (refine step_append_row _ rfl (.tmp 40) (.tmp 43) 22 rfl w2.heap.size 33 i0 _ 4 56 Tryd.underlying22 hi0 hz0 hz1 hz2 rfl (by decide) _ (0 + p + 1) _ rfl
                    hown7 _ _ _ (ecells (out.drop p)) rfl (by intro e; cases e) (by omega) (by rw [ecells_length, List.length_drop, HL.out])
                    (by first | exact HT3.out _ hB7 | (have := HT3.out _ hB7; simpa using this) | (exact fun hp => by rw [hdn] at hp; simp [ecells] at hp)) (ecells_one _) (by unfold maxLen; omega) (by omega) hB7.size ?_
                   intro v8 w8 hown8 hgrow8
                   have hB8 : Below w2.heap.size w2 w8 := hB7.grown hgrow8 hB7.size (fun q hq => (hown7.lt q hq).1)))
            all_goals
              have hfin := ins_own HL.out HFP.out hm4 hown8
              have hbf := hbw2.trans (hB8.mono hbw2.size)
              have hfin2 := Lib.hid (ownsRow_lower hfin hbw2.size)
              clear hown8 hown7 hown6 hgrow8 hgrow7 hgrow6 hB6 hB7 hB8 hfin
              go_wp2_with fail
              go_roundw
              case rel => exact ⟨k + 1, by go_num, by omega, by rw [HE.out]; exact hfin2.out, hbf⟩
              case measure => simp [intOf]; omega
        · obtain ⟨m, rfl⟩ : ∃ m, j = m + 1 := ⟨j - 1, by omega⟩
          have hcast : ((m + 1 : Nat) : Int) = (m : Int) + 1 := by omega
          rw [hcast]
          clear hcast
          have HO2 := Lib.hid (ownsRow_keepF HO.out (KeepF.of_below hbi (fun _ => False)) (fun _ _ h => h))
          obtain ⟨g, rfl, _⟩ := own_at HO2.out (by omega)
          have hmo : m < out.length := by have := HL.out; omega
          obtain ⟨q0, q1, q2, q3⟩ := own_ecells HO2.out m hmo
          have HX : Hid (posF x out (m + 1) = if bef x out[m] then posF x out m else m + 1) := Lib.hid (by
            rw [posF]; simp [hmo])
          have hjk : (m : Int) < (k : Int) := by omega
          have hjp : (0 : Int) < (m : Int) + 1 := by omega
          have hw1 : IntKind.i64.wrap ((m : Int) + 1 - 1) = (m : Int) := by rw [wrap_in _ (by omega) (by omega)]; omega
          have hw2 : IntKind.i64.wrap (m : Int) = (m : Int) := by rw [wrap_in _ (by omega) (by omega)]
          generalize hy : out[m] = y at *
          have HY := Lib.hid hy; clear hy
          go_wp2_with fail
          go_region_held3 (fun w' => w'.cell? ⟨b, o + k * 4, none⟩ = some (.int .i64 x.s) ∧ w'.cell? ⟨b, o + k * 4 + 1, none⟩ = some (.int .i64 x.t) ∧ w'.cell? ⟨b, o + k * 4 + 2, none⟩ = some (.slice x.A x.n x.c) ∧ w'.cell? ⟨b, o + k * 4 + 3, none⟩ = some (.string x.x)
              ∧ w'.cell? ⟨g, m * 4, none⟩ = some (.int .i64 y.s) ∧ w'.cell? ⟨g, m * 4 + 1, none⟩ = some (.int .i64 y.t) ∧ w'.cell? ⟨g, m * 4 + 2, none⟩ = some (.slice y.A y.n y.c) ∧ w'.cell? ⟨g, m * 4 + 3, none⟩ = some (.string y.x))
            (first | go_keep | (exact ⟨keepc hb2 p0, keepc hb2 p1, keepc hb2 p2, keepc hb2 p3, keepc hb2 q0, keepc hb2 q1, keepc hb2 q2, keepc hb2 q3⟩))
            (first | (go_at_call 52; refine (rbefore_any _ _ _ _ _ _ _ _ _).mono ?_; rintro e w2 ⟨rfl, hb2⟩))
          all_goals
            have hbw2 := thenB hbw (undrew hb2)
            have hbi2 := thenB hbi (undrew hb2)
            have hb22 := undrew hb2
            clear p0 p1 p2 p3 q0 q1 q2 q3 hb2 hw1 hw2
            cases hf : beforeE x.s x.t y.s y.t with
            | true =>
              have HF := Lib.hid hf; clear hf
              go_wp2_with fail
              go_roundw
              case rel => exact ⟨m, by go_num, by omega, by rw [HP.out, HX.out, if_pos (show bef x y = true from HF.out)], hbi2⟩
              case measure => simp [intOf]
            | false =>
              have HF : Hid (posF x out k = m + 1) := Lib.hid (by rw [HP.out, HX.out, if_neg (by rw [show bef x y = beforeE x.s x.t y.s y.t from rfl, hf]; decide)])
              clear hf
              have hcap := own_cap HO2.out
              obtain ⟨p0, p1, p2, p3⟩ := HC.out w2 hbw2
              obtain ⟨p, hpm⟩ : ∃ p : Nat, p = m + 1 := ⟨_, rfl⟩
              have hpi : (m : Int) + 1 = (p : Int) := by omega
              rw [hpi]
              have HFP : Hid (posF x out k = p) := Lib.hid (by rw [HF.out, hpm])
              have hm4 : p ≤ k := by omega
              have hm5 : p ≤ co := by omega
              clear hpi hpm
              have hm1 : (p : Int) ≤ (k : Int) := by omega
              have hm2 : (p : Int) ≤ (co : Int) := by omega
              have HSS : ∀ w', Below w2.heap.size w2 w' → (w'.cell? ⟨b, o + k * 4, none⟩ = some (.int .i64 x.s) ∧ w'.cell? ⟨b, o + k * 4 + 1, none⟩ = some (.int .i64 x.t) ∧ w'.cell? ⟨b, o + k * 4 + 2, none⟩ = some (.slice x.A x.n x.c) ∧ w'.cell? ⟨b, o + k * 4 + 3, none⟩ = some (.string x.x) ∧ Below w2.heap.size w2 w') :=
                fun w' hK => ⟨keepc hK p0, keepc hK p1, keepc hK p2, keepc hK p3, hK⟩
              have HO3 := Lib.hid (ownsRow_keepF HO2.out (KeepF.of_below hb22 (fun _ => False)) (fun _ _ h => h))
              have HT1 := Lib.hid (fun W (hW : Below w2.heap.size w2 W) => ((own_rowCells HO3.out).take p).below hW)
              have HT3 := Lib.hid (fun W (hW : Below w2.heap.size w2 W) => (rowCells_drop (own_rowCells HO3.out) p).below hW)
              have hdd : (co - p = 0 ∧ co = p ∧ out.drop p = []) ∨ (¬ (co - p = 0) ∧ ¬ (co = p)) := by
                have := HL.out
                by_cases hco : p = co
                · exact .inl ⟨by omega, by omega, List.drop_eq_nil_of_le (by omega)⟩
                · exact .inr ⟨by omega, by omega⟩
              rcases hdd with ⟨hco1, hco2, hdn⟩ | ⟨hco1, hco2⟩
              all_goals go_wp2_with fail
              all_goals go_region_held_law (fun w' => w'.cell? ⟨b, o + k * 4, none⟩ = some (.int .i64 x.s) ∧ w'.cell? ⟨b, o + k * 4 + 1, none⟩ = some (.int .i64 x.t) ∧ w'.cell? ⟨b, o + k * 4 + 2, none⟩ = some (.slice x.A x.n x.c) ∧ w'.cell? ⟨b, o + k * 4 + 3, none⟩ = some (.string x.x) ∧ Below w2.heap.size w2 w')
                (first
                  | exact HSS _ (Below.refl _ _)
                  | exact HSS _ (Below.refl _ _).drew
                  | exact HSS _ hB8 | exact HSS _ hB7 | exact HSS _ hB6 | exact HSS _ hB7.drew | exact HSS _ hB6.drew
                  | exact HSS _ ((Below.refl _ _).alloc (Nat.le_refl _) _).drew
                  | exact HSS _ (((Below.refl _ _).alloc (Nat.le_refl _) _).alloc (by simp) _).drew
                  | exact HSS _ (hB6.alloc hB6.size _).drew
                  | exact HSS _ (hB6.alloc hB6.size _))
                (first
                  | (refine step_append_row _ rfl (.tmp 30) (.tmp 33) 22 rfl w2.heap.size 33 i0 _ 4 56 Tryd.underlying22 hi0 hz0 hz1 hz2 rfl (by decide) _ 0 [] rfl
                      (by first | exact (own_made' (Nat.le_refl _) rfl).drew2 | exact ((own_made' (Nat.le_refl _) rfl).alloc _).drew2 | exact (own_made' (by simp) (by simp)).drew2)
                      _ _ _ (ecells (out.take p)) rfl (by intro e; cases e) (by omega) (by rw [ecells_length, List.length_take]; have := HL.out; omega)
                      (by first | exact HT1.out _ ((Below.refl _ _).alloc (Nat.le_refl _) _).drew | exact HT1.out _ (((Below.refl _ _).alloc (Nat.le_refl _) _).alloc (by simp) _).drew)
                      (ecells_one _) (by unfold maxLen; omega) (by omega) (by simp only [World.size_alloc, World.size_drew]; omega) ?_
                     intro v6 w6 hown6 hgrow6
                     have hB6 : Below w2.heap.size w2 w6 := by
                       first
                         | exact ((Below.refl _ _).alloc (Nat.le_refl _) _).drew.grown hgrow6 (by simp only [World.size_alloc, World.size_drew]; omega) (by intro q hq; simp [Value.ownBlock, Act.eval, Act.put] at hq; omega)
                         | exact (((Below.refl _ _).alloc (Nat.le_refl _) _).alloc (by simp) _).drew.grown hgrow6 (by simp only [World.size_alloc, World.size_drew]; omega) (by intro q hq; simp [Value.ownBlock, Act.eval, Act.put] at hq; omega))
                  | (refine step_append_row _ rfl (.tmp 34) (.tmp 39) 22 rfl w2.heap.size 33 i0 _ 4 56 Tryd.underlying22 hi0 hz0 hz1 hz2 rfl (by decide) _ (0 + p) ([] ++ ecells (out.take p)) rfl
                      (by first | exact hown6 | exact hown6.alloc _ | exact (hown6.alloc _).drew2 | exact hown6.drew2)
                      _ 1 1 [.int .i64 x.s, .int .i64 x.t, .slice x.A x.n x.c, .string x.x] rfl (by intro e; cases e) (Nat.le_refl _) rfl
                      (by first
                        | exact rowCells_new (cs := #[.int .i64 x.s, .int .i64 x.t, .slice x.A x.n x.c, .string x.x]) rfl
                        | exact rowCells_grown (cs := #[.int .i64 x.s, .int .i64 x.t, .slice x.A x.n x.c, .string x.x]) (t := 33) ((Blk.new _ _ _ _ (by simp)).drew) hgrow6 (by simp [Value.ownBlock, Act.eval, Act.put])
                        | exact rowCells_grown (cs := #[.int .i64 x.s, .int .i64 x.t, .slice x.A x.n x.c, .string x.x]) (t := 33) (((Blk.new _ _ _ _ (by simp)).alloc _).drew) hgrow6 (by simp [Value.ownBlock, Act.eval, Act.put]))
                      (by simp [Value.oneCell']) (by unfold maxLen; omega) (by omega) (by have := hB6.size; simp <;> omega) ?_
                     intro v7 w7 hown7 hgrow7
                     have hB7 : Below w2.heap.size w2 w7 := by
                       first
                         | exact hB6.grown hgrow7 hB6.size (fun q hq => (hown6.lt q hq).1)
                         | exact (hB6.alloc hB6.size _).grown hgrow7 (by have := hB6.size; simp; omega) (fun q hq => (hown6.lt q hq).1))
                  | (refine step_append_row _ rfl (.tmp 40) (.tmp 43) 22 rfl w2.heap.size 33 i0 _ 4 56 Tryd.underlying22 hi0 hz0 hz1 hz2 rfl (by decide) _ (0 + p + 1) _ rfl
                      hown7 _ _ _ (ecells (out.drop p)) rfl (by intro e; cases e) (by omega) (by rw [ecells_length, List.length_drop, HL.out])
                      (by first | exact HT3.out _ hB7 | (have := HT3.out _ hB7; simpa using this) | (exact fun hp => by rw [hdn] at hp; simp [ecells] at hp)) (ecells_one _) (by unfold maxLen; omega) (by omega) hB7.size ?_
                     intro v8 w8 hown8 hgrow8
                     have hB8 : Below w2.heap.size w2 w8 := hB7.grown hgrow8 hB7.size (fun q hq => (hown7.lt q hq).1)))
              all_goals
                have hfin := ins_own HL.out HFP.out hm4 hown8
                have hbf := hbw2.trans (hB8.mono hbw2.size)
                have hfin2 := Lib.hid (ownsRow_lower hfin hbw2.size)
                clear hown8 hown7 hown6 hgrow8 hgrow7 hgrow6 hB6 hB7 hB8 hfin
                go_wp2_with fail
                go_roundw
                case rel => exact ⟨k + 1, by go_num, by omega, by rw [HE.out]; exact hfin2.out, hbf⟩
                case measure => simp [intOf]; omega
    · obtain rfl : k = es.length := by omega
      rw [List.take_of_length_le (Nat.le_refl _)] at ho
      have HO := Lib.hid ho; clear ho
      go_wp2
      go_ret
      exact ⟨_, rfl, HO.out, hb⟩
end Go.Proofs.YtojocffjajcdmaaDoor.RS
/- RecordSorts: the law walked. -/
namespace Go.Proofs.YtojocffjajcdmaaDoor
open Go.RowKit Go.Proofs.YtojocffjajcdmaaDoorW.PrintWords Go.Proofs.YtojocffjajcdmaaDoorW.PrintLast Go.Proofs.YtojocffjajcdmaaDoorW.PrintMore PChunkAll
set_option linter.unusedVariables false
set_option linter.unusedSimpArgs false

theorem insE_eq (x : RS.Ent) (out : List RS.Ent) : ∀ k, k ≤ out.length → (ST.insR RS.bef x (out.take k).reverse).reverse = (out.take k).take (RS.posF x out k) ++ x :: (out.take k).drop (RS.posF x out k) := by
  intro k
  induction k with
  | zero => intro _; simp [ST.insR, RS.posF]
  | succ k ih =>
    intro hk
    have e : out.take (k + 1) = out.take k ++ [out[k]] := List.take_succ_eq_append_getElem (by omega)
    have eg : out.getD k default = out[k] := by simp [show k < out.length by omega]
    have hle := RS.posF_le x out k
    have hl : (out.take k).length = k := by rw [List.length_take]; omega
    rw [e, List.reverse_append, List.reverse_cons, List.reverse_nil, List.nil_append, List.singleton_append, RS.posF, eg]
    unfold ST.insR
    split
    · rw [List.reverse_cons, ih (by omega), List.take_append_of_le_length (by omega), List.drop_append_of_le_length (by omega)]; simp
    · have hl1 : (out.take k ++ [out[k]]).length = k + 1 := by rw [List.length_append, hl]; rfl
      rw [List.take_of_length_le (l := out.take k ++ [out[k]]) (Nat.le_of_eq hl1), List.drop_of_length_le (l := out.take k ++ [out[k]]) (Nat.le_of_eq hl1)]; simp
theorem insE_srt (x : RS.Ent) (out : List RS.Ent) : RS.insE out x = (ST.insR RS.bef x out.reverse).reverse := by
  have := insE_eq x out out.length (Nat.le_refl _)
  rw [List.take_length] at this
  rw [this]; rfl
theorem sortR_fold (es out : List RS.Ent) : es.foldl RS.insE out = (ST.srtR RS.bef es out.reverse).reverse := by
  induction es generalizing out with
  | nil => simp [ST.srtR]
  | cons a l ih =>
    rw [List.foldl_cons, ih, insE_srt, List.reverse_reverse]; rfl
theorem sortR_srt (es : List RS.Ent) : RS.sortR es = ST.srt RS.bef es := sortR_fold es []

def RE.ent (r : RE) : RS.Ent := ⟨r.x.f0, r.x.f1, r.A, r.x.f2.length, r.c, r.x.f3⟩
theorem ecells_ent (rs : List RE) : RS.ecells (rs.map RE.ent) = rs.flatMap RE.cells := by
  unfold RS.ecells
  rw [List.flatMap_map]; rfl
theorem sort_ent (rs : List RE) : RS.sortR (rs.map RE.ent) = (ST.srt (ltOf cfE) rs).map RE.ent := by
  rw [sortR_srt, ST.srt_map RE.ent (ltOf cfE) RS.bef (fun x y => rfl)]

theorem rsortE_any (A : Option Addr) (c : Nat) (l : List S33) (w : World) (hr : Kd.C k33 w A l.length l) (hE : EntsOk l) : Calls Tryd.prog 50 #[.slice A l.length c] w (SortP w l) := by
  obtain ⟨rs, hmap, htag, hrow, hok⟩ := raw_of hr
  have hlen : (rs.map RE.ent).length = l.length := by rw [← hmap]; simp
  have h := RS.rsort50 A c (rs.map RE.ent) w (by rw [ecells_ent]; exact hrow) (by rw [hlen]; exact hE.1)
  rw [hlen] at h
  refine h.mono ?_
  rintro e w' ⟨v, rfl, ho, hb⟩
  rw [sort_ent, ecells_ent, hlen] at ho
  obtain ⟨A', c', rfl⟩ := RS.own_sl ho
  have hx : (ST.srt (ltOf cfE) rs).map (·.x) = sortE l := by rw [ST.srt_map (·.x) (ltOf cfE) ltE (fun x y => rfl), hmap]; rfl
  have hl2 : (ST.srt (ltOf cfE) rs).length = l.length := by rw [ST.srt_length]; simpa using hlen
  refine ⟨A', c', rfl, RS.own_cap ho, ?_, hb⟩
  have := raw_C (w := w') (A := A') (rs := ST.srt (ltOf cfE) rs) (by rw [hl2]; have := hE.1; omega) (own_rowC ho) (fun r hr' => (hok r ((ST.srt_perm _ _).mem_iff.1 hr')).below hb)
  rwa [hl2, hx] at this

theorem lenE_sort {l : List S33} (h : EntsOk l) : LenE (sortE l) := by
  intro k hk
  have e : (sortE l).getD k z33 = (sortE l)[k] := by simp [hk]
  rw [e]
  have hm := (sortE_perm l).mem_iff.1 (List.getElem_mem hk)
  obtain ⟨j, hj, hq⟩ := List.getElem_of_mem hm
  rw [← hq]
  have := h.2.2 j hj
  simpa [hj] using this
theorem sames_len {n : Nat} (A B : Option Addr) (c d : Nat) (l : List S33) (w : World) (hn : l.length = n) (hA : Kd.C k33 w A n l) (hB : Kd.C k33 w B n l) (hl : LenE l) : Calls Tryd.prog 38 #[.slice A n c, .slice B n d] w (BoolBelow true w) := by
  subst hn
  exact sames_any A B c d l w hA hB hl

set_option maxHeartbeats 8000000 in
set_option maxRecDepth 100000 in
theorem sorts_any (A : Option Addr) (c : Nat) (l : List S33) (w : World) (hT : Tabs w) (hx : Kd.C k33 w A l.length l) (hc : l.length ≤ c) (hE : EntsOk l) : Calls Tryd.prog 10 #[.slice A l.length c] w (LawRes w) := by
  have HT0 := Lib.hid hT
  have HX0 := Lib.hid hx
  have HAL := Lib.hid (fun W (h : Kd.C k33 W A l.length l) => all_any A c l W h hc hE)
  have HSO := Lib.hid (fun A' c' W (h : Kd.C k33 W A' l.length l) => rsort_any A' c' l W h hE)
  have HRS := Lib.hid (fun W (h : Kd.C k33 W A l.length l) => rsortE_any A c l W h hE)
  have HS1 := Lib.hid (fun A1 B1 c1 d1 W (h1 : Kd.C k33 W A1 l.length (sortE l)) (h3 : Kd.C k33 W B1 l.length (sortE l)) => sames_len A1 B1 c1 d1 (sortE l) W (sortE_len l) h1 h3 (lenE_sort hE))
  have HS2 := Lib.hid (fun A1 c1 W (h1 : Kd.C k33 W A1 l.length l) (h3 : Kd.C k33 W A l.length l) => sames_any A1 A c1 c l W h1 h3 hE.2.2)
  have hmx : l.length ≤ 2513169434916 := hE.1
  unfold SortP at HSO HRS
  clear hT hx hc hE
  generalize sortE l = sl at *
  go_enter Tryd.func10, Tryd.ntmps10
  go_wp2_with (first
    | (go_at_call 19; (with_reducible refine (HAL.out _ HX0.out).mono ?_); rintro e w1 ⟨A1, c1, rfl, hc1, hC1, hb⟩; have HY1 := Lib.hid hC1; have HB1 := Lib.hid hb; have HT1 := Lib.hid (HT0.out.below hb); have HX1 := Lib.hid (Kd.C_below HX0.out hb); clear hc1 hC1 hb)
    | (go_at_call 49; (with_reducible refine (HSO.out _ _ _ HY1.out).mono ?_); rintro e w2 ⟨A2, c2, rfl, hc2, hC2, hb⟩; have HS2' := Lib.hid hC2; have HB2 := Lib.hid (below_step HB1.out hb); have HT2 := Lib.hid (HT1.out.below hb); have HX2 := Lib.hid (Kd.C_below HX1.out hb); have HY2 := Lib.hid (Kd.C_below HY1.out hb); clear hc2 hC2 hb)
    | (go_at_call 50; (with_reducible refine (HRS.out _ HX2.out).mono ?_); rintro e w3 ⟨A3, c3, rfl, hc3, hC3, hb⟩; have HR3 := Lib.hid hC3; have HB3 := Lib.hid (below_step HB2.out hb); have HT3 := Lib.hid (HT2.out.below hb); have HX3 := Lib.hid (Kd.C_below HX2.out hb); have HY3 := Lib.hid (Kd.C_below HY2.out hb); have HS3 := Lib.hid (Kd.C_below HS2'.out hb); clear hc3 hC3 hb))
  go_loopg [6] l.length (fun kx v6 wr => ∃ (m : Nat), v6 = .int .i64 ((m : Int) + 1) ∧ l.length - m ≤ kx ∧ (m ≤ l.length) ∧ Hid (Below w3.heap.size w3 wr))
  case atStart => exact ⟨0, by simp, by omega, by omega, Below.refl _ _⟩
  case round =>
    obtain ⟨m, rfl, hkx, hml, HBR⟩ := hrel
    by_cases hlt : m + 1 < l.length
    · have hltz : (m : Int) + 1 < (l.length : Int) := by omega
      have hltz1 : (m : Int) < (l.length : Int) := by omega
      obtain ⟨b, o, rfl, hx⟩ := ents_at HX3.out (by omega)
      obtain ⟨A1', c1', p0, p1, p2, p3, p4, p5⟩ := (hx m (by omega)).below HBR.out
      obtain ⟨A2', c2', q0, q1, q2, q3, q4, q5⟩ := (hx (m + 1) hlt).below HBR.out
      clear hx p4 p5 q4 q5
      generalize l.getD m z33 = x at *
      generalize l.getD (m + 1) z33 = y at *
      have hw1 : IntKind.i64.wrap ((m : Int) + 1 - 1) = (m : Int) := by rw [IntKind.wrap_i64]; omega
      have hw2 : IntKind.i64.wrap (m : Int) = (m : Int) := by rw [IntKind.wrap_i64]; omega
      have e0 : ((m : Int) + 1).toNat = m + 1 := by omega
      have p00 : (0 : Int) ≤ (m : Int) + 1 := by omega
      have P0 := fun d os => cell_regrown p0 d os
      have P1 := fun d os => cell_regrown p1 d os
      have P2 := fun d os => cell_regrown p2 d os
      have P3 := fun d os => cell_regrown p3 d os
      have Q0 := fun d os => cell_regrown q0 d os
      have Q1 := fun d os => cell_regrown q1 d os
      have Q2 := fun d os => cell_regrown q2 d os
      have Q3 := fun d os => cell_regrown q3 d os
      have c51 := fun d os => Calls.regrown_of (before_any x.f0 x.f1 y.f0 y.f1 (.slice A1' x.f2.length c1') (.slice A2' y.f2.length c2') (.string x.f3) (.string y.f3) (Go.Sort.grow (redrawn wr d) os))
      have c52 := fun d os => Calls.regrown_of (RS.rbefore_any x.f0 x.f1 y.f0 y.f1 (.slice A1' x.f2.length c1') (.slice A2' y.f2.length c2') (.string x.f3) (.string y.f3) (Go.Sort.grow (redrawn wr d) os))
      have c51b := fun d os => Calls.regrown_of (before_any y.f0 y.f1 x.f0 x.f1 (.slice A2' y.f2.length c2') (.slice A1' x.f2.length c1') (.string y.f3) (.string x.f3) (Go.Sort.grow (redrawn wr d) os))
      have c52b := fun d os => Calls.regrown_of (RS.rbefore_any y.f0 y.f1 x.f0 x.f1 (.slice A2' y.f2.length c2') (.slice A1' x.f2.length c1') (.string y.f3) (.string x.f3) (Go.Sort.grow (redrawn wr d) os))
      generalize beforeE x.f0 x.f1 y.f0 y.f1 = bb1 at *
      generalize beforeE y.f0 y.f1 x.f0 x.f1 = bb2 at *
      clear p0 p1 p2 p3 q0 q1 q2 q3
      have n1 : (bb1 != bb1) = false := by simp
      have n2 : (bb2 != bb2) = false := by simp
      go_wp2_with fail
      refine wp_region_quiet_below (by kernel_rfl) (by kernel_rfl) ?_
      repeat (first
        | go_big_quiet_step ((first | (go_at_call 51; with_reducible exact c51 _ _) | (go_at_call 51; with_reducible exact c51b _ _) | (go_at_call 52; with_reducible exact c52 _ _) | (go_at_call 52; with_reducible exact c52b _ _)))
        | quiet_step ((first | (go_at_call 51; with_reducible exact c51 _ _) | (go_at_call 51; with_reducible exact c51b _ _) | (go_at_call 52; with_reducible exact c52 _ _) | (go_at_call 52; with_reducible exact c52b _ _))))
      refine wpQuiet_nil ?_
      intro _ hw'
      obtain ⟨⟨dq, osq⟩, hw''⟩ := hw'
      subst hw''
      go_wp2_with fail
      go_roundg (l.length - (m + 1))
      case measure => omega
      case rel => exact ⟨m + 1, by go_num, by omega, by omega, HBR.out.trans ((below_regrown wr dq osq).mono HBR.out.size)⟩
    · have hltz : ¬ (m : Int) + 1 < (l.length : Int) := by omega
      have HX4 := Lib.hid (Kd.C_below HX3.out HBR.out)
      have HY4 := Lib.hid (Kd.C_below HY3.out HBR.out)
      have HS4 := Lib.hid (Kd.C_below HS3.out HBR.out)
      have HR4 := Lib.hid (Kd.C_below HR3.out HBR.out)
      have HT4 := Lib.hid (HT3.out.below HBR.out)
      have HB4 := Lib.hid (below_step HB3.out HBR.out)
      go_wp2_with (first
        | (go_at_call 38; (with_reducible refine (HS1.out A2 A3 c2 c3 wr HS4.out HR4.out).mono ?_); rintro e w5 ⟨rfl, hb⟩; have HB5 := Lib.hid (below_step HB4.out hb); have HT5 := Lib.hid (HT4.out.below hb); have HY5 := Lib.hid (Kd.C_below HY4.out hb); have HX5 := Lib.hid (Kd.C_below HX4.out hb); clear hb)
        | (go_at_call 38; (with_reducible refine (HS2.out A1 c1 w5 HY5.out HX5.out).mono ?_); rintro e w6 ⟨rfl, hb⟩; have HB6 := Lib.hid (below_step HB5.out hb); have HT6 := Lib.hid (HT5.out.below hb); clear hb)
        | (go_at_call 21; (with_reducible refine (knows_any _ HT6.out).mono ?_); rintro e w7 ⟨rfl, hb⟩; have HB7 := Lib.hid (below_step HB6.out hb); clear hb))
      go_ret
      exact ⟨rfl, HB7.out⟩
end Go.Proofs.YtojocffjajcdmaaDoor
