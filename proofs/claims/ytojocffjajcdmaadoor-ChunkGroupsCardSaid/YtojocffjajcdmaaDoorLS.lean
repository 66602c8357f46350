/- The stable sort in plain Lean: elements carry a number of their own (a tag); what is laid in order by key and then by tag is the stable order. -/
import Derived.Sort.LotA
import Derived.Shelf.SlSortCmp.Insertion
import Derived.Shelf.SlSortCmp.KitK
import Derived.Lib.QuietBelow
import Derived.Lib.Hide
import Derived.Test.YtojocffjajcdmaaDoorProg
import Derived.Sort.WalkB2
import Derived.Sort.WalkB12
import Derived.Deep.LoopGhost
import Derived.Deep.DeepCutAuto
namespace Go.Proofs.YtojocffjajcdmaaDoor.ST
open Go.Sort Go.Proofs
set_option linter.unusedVariables false
set_option linter.unusedSimpArgs false
variable {α : Type}

/-- By key, then by tag. -/
def tl (cf : α → α → Int) (tg : α → Nat) (x y : α) : Bool := ltOf cf x y || (!(ltOf cf y x) && decide (tg x < tg y))

variable {cf : α → α → Int} {tg : α → Nat}

theorem lt_asymm (hS : SWO (ltOf cf)) {x y : α} (h : ltOf cf x y = true) : ltOf cf y x = false := by
  cases h2 : ltOf cf y x
  · rfl
  · have := hS.trans _ _ _ h h2
    rw [hS.irrefl] at this; cases this
theorem tl_lo (hS : SWO (ltOf cf)) {x y : α} (h : tg x < tg y) : tl cf tg x y = !(ltOf cf y x) := by
  unfold tl
  cases h1 : ltOf cf y x
  · simp [h]
  · simp [lt_asymm hS h1]
theorem tl_hi {x y : α} (h : tg x < tg y) : tl cf tg y x = ltOf cf y x := by
  unfold tl
  have : ¬ tg y < tg x := by omega
  cases h1 : ltOf cf y x <;> simp [this]
theorem tl_trans (hS : SWO (ltOf cf)) {x y z : α} (h1 : tl cf tg x y = true) (h2 : tl cf tg y z = true) : tl cf tg x z = true := by
  unfold tl at *
  simp only [Bool.or_eq_true, Bool.and_eq_true, Bool.not_eq_true', decide_eq_true_eq] at *
  have A := hS.trans
  have N := hS.ntrans
  rcases h1 with h1 | ⟨h1, t1⟩ <;> rcases h2 with h2 | ⟨h2, t2⟩
  · exact Or.inl (A _ _ _ h1 h2)
  · cases h : ltOf cf x z
    · right
      have := N x z y h h2
      rw [h1] at this; cases this
    · exact Or.inl rfl
  · cases h : ltOf cf x z
    · have := N y x z h1 h
      rw [h2] at this; cases this
    · exact Or.inl rfl
  · cases h : ltOf cf x z
    · right; exact ⟨N _ _ _ h2 h1, by omega⟩
    · exact Or.inl rfl
theorem tl_asymm (hS : SWO (ltOf cf)) {x y : α} (h1 : tl cf tg x y = true) : tl cf tg y x = false := by
  cases h : tl cf tg y x
  · rfl
  · have := tl_trans hS h1 h
    unfold tl at this
    simp [hS.irrefl] at this

variable [Inhabited α]
def Asc (tg : α → Nat) (a b : Nat) (d : Array α) : Prop := ∀ p q, a ≤ p → p < q → q < b → tg d[p]! < tg d[q]!
def St (cf : α → α → Int) (tg : α → Nat) (a b : Nat) (d : Array α) : Prop := ∀ p q, a ≤ p → p < q → q < b → tl cf tg d[p]! d[q]! = true

theorem St.join {a c b : Nat} {d : Array α} (h1 : St cf tg a c d) (h2 : St cf tg c b d) (h3 : ∀ p q, a ≤ p → p < c → c ≤ q → q < b → tl cf tg d[p]! d[q]! = true) : St cf tg a b d := by
  intro p q hp hpq hq
  by_cases h : q < c
  · exact h1 p q hp hpq h
  · by_cases h' : c ≤ p
    · exact h2 p q h' hpq hq
    · exact h3 p q hp (by omega) (by omega) hq
theorem St.congr {a b : Nat} {d d' : Array α} (h : St cf tg a b d) (he : ∀ k, a ≤ k → k < b → d'[k]! = d[k]!) : St cf tg a b d' := by
  intro p q hp hpq hq
  rw [he p hp (by omega), he q (by omega) hq]
  exact h p q hp hpq hq
theorem St.sub {a b a' b' : Nat} {d : Array α} (h : St cf tg a b d) (h1 : a ≤ a') (h2 : b' ≤ b) : St cf tg a' b' d := fun p q hp hpq hq => h p q (by omega) hpq (by omega)
theorem St.one (a : Nat) (d : Array α) : St cf tg a (a + 1) d := fun p q hp hpq hq => absurd hpq (by omega)

/-! ### The insertion sort -/
/-- The round's state: what was at i stands at j now. -/
structure InsI (cf : α → α → Int) (tg : α → Nat) (a b j i : Nat) (d dj : Array α) : Prop where
  perm : PermIn a b d dj
  rest : ∀ p q, a ≤ p → p < q → q ≤ i → p ≠ j → q ≠ j → tl cf tg dj[p]! dj[q]! = true
  right : ∀ q, j < q → q ≤ i → tl cf tg dj[j]! dj[q]! = true
  tags : ∀ p, a ≤ p → p ≤ i → p ≠ j → tg dj[p]! < tg dj[j]!
  late : ∀ q, i < q → dj[q]! = d[q]!

/-- Ahead of a round. -/
structure InsO (cf : α → α → Int) (tg : α → Nat) (a b i : Nat) (d di : Array α) : Prop where
  perm : PermIn a b d di
  st : St cf tg a i di
  tags : ∀ p q, a ≤ p → p < i → i ≤ q → q < b → tg di[p]! < tg di[q]!
  late : ∀ q, i ≤ q → di[q]! = d[q]!

theorem InsO.start {a b : Nat} {d : Array α} (hA : Asc tg a b d) : InsO cf tg a b (a + 1) d d :=
  ⟨permIn_refl _ _ _, St.one _ _, fun p q h1 h2 h3 h4 => hA p q h1 (by omega) h4, fun q _ => rfl⟩

theorem InsI.start {a b i : Nat} {d di : Array α} (h : InsO cf tg a b i d di) (hi : i < b) : InsI cf tg a b i i d di :=
  ⟨h.perm, fun p q hp hpq hq h1 h2 => h.st p q hp hpq (by omega), fun q h1 h2 => absurd h1 (by omega), fun p hp h1 h2 => h.tags p i hp (by omega) (by omega) hi, fun q hq => h.late q (by omega)⟩

theorem InsI.step {a b j i : Nat} {d dj : Array α} (h : InsI cf tg a b (j + 1) i d dj) (haj : a ≤ j) (hji : j + 1 ≤ i) (hib : i < b) (hbs : b ≤ d.size) (hl : ltOf cf dj[j + 1]! dj[j]! = true) : InsI cf tg a b j i d (swp dj (j + 1) j) := by
  have hs : dj.size = d.size := h.perm.1
  have g := fun k => swp_get dj (i := j + 1) (j := j) (by omega) (by omega) k
  have htg := h.tags j haj (by omega) (by omega)
  refine ⟨permIn_trans _ _ _ _ _ h.perm (swp_permIn dj a b (j + 1) j (by omega) (by omega) haj (by omega) (by omega)), ?_, ?_, ?_, ?_⟩
  · intro p q hp hpq hq h1 h2
    rw [g p, g q, if_neg h1, if_neg h2]
    by_cases c1 : p = j + 1
    · rw [if_pos c1, if_neg (by omega)]
      subst c1
      exact h.rest j q haj (by omega) hq (by omega) (by omega)
    · rw [if_neg c1]
      by_cases c2 : q = j + 1
      · rw [if_pos c2]
        exact h.rest p j hp (by omega) (by omega) c1 (by omega)
      · rw [if_neg c2]
        exact h.rest p q hp hpq hq c1 c2
  · intro q h1 h2
    rw [g j, g q, if_pos rfl, if_neg (by omega)]
    by_cases c : q = j + 1
    · rw [if_pos c, tl_hi htg]; exact hl
    · rw [if_neg c]; exact h.right q (by omega) h2
  · intro p hp h1 h2
    rw [g j, g p, if_pos rfl, if_neg h2]
    by_cases c : p = j + 1
    · rw [if_pos c]; exact htg
    · rw [if_neg c]; exact h.tags p hp h1 c
  · intro q hq
    rw [g q, if_neg (by omega), if_neg (by omega)]; exact h.late q hq

theorem InsI.stop (hS : SWO (ltOf cf)) {a b j i : Nat} {d dj : Array α} (h : InsI cf tg a b j i d dj) (hA : Asc tg a b d) (haj : a ≤ j) (hji : j ≤ i) (hib : i < b) (hbs : b ≤ d.size) (hl : j ≤ a ∨ ltOf cf dj[j]! dj[j - 1]! = false) : InsO cf tg a b (i + 1) d dj := by
  have hj : ∀ p, a ≤ p → p < j → tl cf tg dj[p]! dj[j]! = true := by
    intro p hp hpj
    rcases hl with hl | hl
    · omega
    · have h1 : tl cf tg dj[j - 1]! dj[j]! = true := by rw [tl_lo hS (h.tags (j - 1) (by omega) (by omega) (by omega)), hl]; rfl
      by_cases c : p = j - 1
      · subst c; exact h1
      · exact tl_trans hS (h.rest p (j - 1) hp (by omega) (by omega) (by omega) (by omega)) h1
  refine ⟨h.perm, ?_, ?_, fun q hq => h.late q (by omega)⟩
  · intro p q hp hpq hq
    by_cases c1 : p = j
    · subst c1; exact h.right q hpq (by omega)
    · by_cases c2 : q = j
      · subst c2; exact hj p hp hpq
      · exact h.rest p q hp hpq (by omega) c1 c2
  · intro p q hp hpi hiq hqb
    -- what lies up to i comes from there
    have hq : dj[q]! = d[q]! := h.late q (by omega)
    rw [hq]
    have hin : PermIn a (i + 1) d dj := by
      refine ⟨h.perm.1, fun k hk => ?_, ?_⟩
      · rcases hk with hk | hk
        · exact h.perm.2.1 k (Or.inl hk)
        · exact h.late k (by omega)
      · have hp2 := h.perm.2.2
        rw [extract_toList _ _ _ (by rw [h.perm.1]; exact hbs), extract_toList _ _ _ hbs] at hp2
        rw [extract_toList _ _ _ (by rw [h.perm.1]; omega), extract_toList _ _ _ (by omega)]
        have e : b - a = (i + 1 - a) + (b - (i + 1)) := by omega
        rw [e, ← List.range'_append_1, List.map_append, List.map_append] at hp2
        have e2 : (List.range' (a + (i + 1 - a)) (b - (i + 1))).map (fun k => dj[k]!) = (List.range' (a + (i + 1 - a)) (b - (i + 1))).map (fun k => d[k]!) := by
          apply List.map_congr_left
          intro k hk
          have := List.mem_range'_1.1 hk
          exact h.late k (by omega)
        rw [e2] at hp2
        exact (List.perm_append_right_iff _).1 hp2
    exact permIn_all d dj a (i + 1) (fun x => tg x < tg d[q]!) (by omega) hin (fun k hk1 hk2 => hA k q hk1 (by omega) hqb) p hp hpi

theorem InsO.done {a b : Nat} {d di : Array α} (h : InsO cf tg a b b d di) : PermIn a b d di ∧ St cf tg a b di := ⟨h.perm, h.st⟩

/-! ### Ranges exchanged, and rows turned about a place -/
def swr (d : Array α) (a b : Nat) : Nat → Array α
  | 0 => d
  | n + 1 => swp (swr d a b n) (a + n) (b + n)

theorem swr_size (d : Array α) (a b n : Nat) : (swr d a b n).size = d.size := by
  induction n with
  | zero => rfl
  | succ n ih => show (swp _ _ _).size = _; rw [size_swp, ih]

theorem swr_get (d : Array α) (a b n : Nat) (h1 : a + n ≤ b) (h2 : b + n ≤ d.size) (k : Nat) :
    (swr d a b n)[k]! = if a ≤ k ∧ k < a + n then d[k - a + b]! else if b ≤ k ∧ k < b + n then d[k - b + a]! else d[k]! := by
  induction n generalizing k with
  | zero => rw [if_neg (by omega), if_neg (by omega)]; rfl
  | succ n ih =>
    show (swp _ _ _)[k]! = _
    have hs := swr_size d a b n
    rw [swp_get (swr d a b n) (i := a + n) (j := b + n) (by omega) (by omega) k]
    have I := fun k => ih (by omega) (by omega) k
    by_cases c1 : k = b + n
    · rw [if_pos c1, I, if_neg (by omega), if_neg (by omega), if_neg (by omega), if_pos (by omega)]
      congr 1; omega
    · rw [if_neg c1]
      by_cases c2 : k = a + n
      · rw [if_pos c2, I, if_neg (by omega), if_neg (by omega), if_pos (by omega)]
        congr 1; omega
      · rw [if_neg c2, I]
        by_cases c3 : a ≤ k ∧ k < a + n
        · rw [if_pos c3, if_pos (by omega)]
        · rw [if_neg c3]
          by_cases c4 : b ≤ k ∧ k < b + n
          · rw [if_pos c4, if_neg (by omega), if_pos (by omega)]
          · rw [if_neg c4, if_neg (by omega), if_neg (by omega)]

theorem swr_perm (d : Array α) (a b n lo hi : Nat) (h1 : lo ≤ a) (h2 : a + n ≤ b) (h3 : b + n ≤ hi) (h4 : hi ≤ d.size) : PermIn lo hi d (swr d a b n) := by
  induction n with
  | zero => exact permIn_refl _ _ _
  | succ n ih => exact permIn_trans _ _ _ _ _ (ih (by omega) (by omega)) (swp_permIn _ lo hi _ _ (by omega) (by omega) (by omega) (by omega) (by rw [swr_size]; omega))

/-- g is f with [a, m) and [m, b) in the other order. -/
def Rot (a m b : Nat) (f g : Array α) : Prop :=
  (∀ k, k < a ∨ b ≤ k → g[k]! = f[k]!) ∧ (∀ k, a ≤ k → k < a + (b - m) → g[k]! = f[k + (m - a)]!) ∧ (∀ k, a + (b - m) ≤ k → k < b → g[k]! = f[k - (b - m)]!)

theorem rot_none (a m b : Nat) (f : Array α) (h : a = m ∨ m = b) (h1 : a ≤ m) (h2 : m ≤ b) : Rot a m b f f := by
  refine ⟨fun _ _ => rfl, fun k h3 h4 => ?_, fun k h3 h4 => ?_⟩
  · rcases h with h | h
    · rw [show k + (m - a) = k by omega]
    · omega
  · rcases h with h | h
    · omega
    · rw [show k - (b - m) = k by omega]

theorem rot_big {m i j : Nat} {f h : Array α} (hj : j < i) (him : i ≤ m) (hs : m + j ≤ f.size) (hr : Rot (m - (i - j)) m (m + j) (swr f (m - i) m j) h) : Rot (m - i) m (m + j) f h := by
  obtain ⟨r1, r2, r3⟩ := hr
  have g := fun k => swr_get f (m - i) m j (by omega) (by omega) k
  refine ⟨fun k hk => ?_, fun k h1 h2 => ?_, fun k h1 h2 => ?_⟩
  · rw [r1 k (by omega), g k, if_neg (by omega), if_neg (by omega)]
  · rw [r1 k (by omega), g k, if_pos (by omega)]; congr 1; omega
  · by_cases c : k < m - (i - j) + j
    · rw [r2 k (by omega) (by omega), g, if_neg (by omega), if_pos (by omega)]; congr 1; omega
    · rw [r3 k (by omega) (by omega), g, if_neg (by omega), if_neg (by omega)]
theorem rot_small {m i j : Nat} {f h : Array α} (hj : i < j) (him : i ≤ m) (hs : m + j ≤ f.size) (hr : Rot (m - i) m (m + (j - i)) (swr f (m - i) (m + j - i) i) h) : Rot (m - i) m (m + j) f h := by
  obtain ⟨r1, r2, r3⟩ := hr
  have g := fun k => swr_get f (m - i) (m + j - i) i (by omega) (by omega) k
  refine ⟨fun k hk => ?_, fun k h1 h2 => ?_, fun k h1 h2 => ?_⟩
  · rw [r1 k (by omega), g k, if_neg (by omega), if_neg (by omega)]
  · by_cases c : k < m - i + (j - i)
    · rw [r2 k (by omega) (by omega), g, if_neg (by omega), if_neg (by omega)]
    · by_cases c2 : k < m + (j - i)
      · rw [r3 k (by omega) c2, g, if_pos (by omega)]; congr 1; omega
      · rw [r1 k (by omega), g, if_neg (by omega), if_pos (by omega)]; exfalso; omega
  · by_cases c2 : k < m + (j - i)
    · rw [r3 k (by omega) c2, g, if_pos (by omega)]; exfalso; omega
    · rw [r1 k (by omega), g, if_neg (by omega), if_pos (by omega)]; congr 1; omega
theorem rot_last {m i : Nat} {f : Array α} (him : i ≤ m) (hs : m + i ≤ f.size) : Rot (m - i) m (m + i) f (swr f (m - i) m i) := by
  have g := fun k => swr_get f (m - i) m i (by omega) (by omega) k
  refine ⟨fun k hk => ?_, fun k h1 h2 => ?_, fun k h1 h2 => ?_⟩
  · rw [g, if_neg (by omega), if_neg (by omega)]
  · rw [g, if_pos (by omega)]; congr 1; omega
  · rw [g, if_neg (by omega), if_pos (by omega)]; congr 1; omega
end Go.Proofs.YtojocffjajcdmaaDoor.ST
/- The stable sort in plain Lean: the merge in place, and blocks. -/
namespace Go.Proofs.YtojocffjajcdmaaDoor.ST
open Go.Sort Go.Proofs
set_option linter.unusedVariables false
set_option linter.unusedSimpArgs false
variable {α : Type} [Inhabited α] {cf : α → α → Int} {tg : α → Nat}

/-- Two ordered rows side by side; each tag of the left one is below each of the right one. -/
structure Two (cf : α → α → Int) (tg : α → Nat) (a m b : Nat) (d : Array α) : Prop where
  am : a ≤ m
  mb : m ≤ b
  bs : b ≤ d.size
  L : St cf tg a m d
  R : St cf tg m b d
  T : ∀ p q, a ≤ p → p < m → m ≤ q → q < b → tg d[p]! < tg d[q]!

/-- One row of both. -/
def Mrg (cf : α → α → Int) (tg : α → Nat) (a b : Nat) (d d' : Array α) : Prop := PermIn a b d d' ∧ St cf tg a b d'

/-! ### One element ahead of a row -/
/-- The search: all of [m, i) is less than the one at a, all of [j, b) is not. -/
structure BsL (cf : α → α → Int) (tg : α → Nat) (a b i j : Nat) (d : Array α) : Prop where
  lo : a + 1 ≤ i
  ij : i ≤ j
  hi : j ≤ b
  less : ∀ q, a + 1 ≤ q → q < i → tl cf tg d[q]! d[a]! = true
  more : ∀ q, j ≤ q → q < b → tl cf tg d[a]! d[q]! = true

theorem BsL.start {a b : Nat} {d : Array α} (h : Two cf tg a (a + 1) b d) : BsL cf tg a b (a + 1) b d := ⟨Nat.le_refl _, h.mb, Nat.le_refl _, fun q h1 h2 => absurd h1 (by omega), fun q h1 h2 => absurd h1 (by omega)⟩
theorem BsL.up (hS : SWO (ltOf cf)) {a b i j h : Nat} {d : Array α} (H : Two cf tg a (a + 1) b d) (B : BsL cf tg a b i j d) (hi : i ≤ h) (hj : h < j) (hl : ltOf cf d[h]! d[a]! = true) : BsL cf tg a b (h + 1) j d := by
  have lo := B.lo
  have hb := B.hi
  have e : tl cf tg d[h]! d[a]! = true := by rw [tl_hi (H.T a h (by omega) (by omega) (by omega) (by omega))]; exact hl
  refine ⟨by omega, by omega, hb, fun q h1 h2 => ?_, B.more⟩
  by_cases c : q = h
  · rw [c]; exact e
  · exact tl_trans hS (H.R q h (by omega) (by omega) (by omega)) e
theorem BsL.down (hS : SWO (ltOf cf)) {a b i j h : Nat} {d : Array α} (H : Two cf tg a (a + 1) b d) (B : BsL cf tg a b i j d) (hi : i ≤ h) (hj : h < j) (hl : ltOf cf d[h]! d[a]! = false) : BsL cf tg a b i h d := by
  have lo := B.lo
  have hb := B.hi
  have e : tl cf tg d[a]! d[h]! = true := by rw [tl_lo hS (H.T a h (by omega) (by omega) (by omega) (by omega)), hl]; rfl
  refine ⟨lo, hi, by omega, B.less, fun q h1 h2 => ?_⟩
  by_cases c : q = h
  · rw [c]; exact e
  · exact tl_trans hS e (H.R h q (by omega) (by omega) (by omega))

/-- Shifting: what was at a stands at k now, [a, k) one place further down. -/
def ShL (a k : Nat) (f g : Array α) : Prop := ∀ x, g[x]! = if a ≤ x ∧ x < k then f[x + 1]! else if x = k then f[a]! else f[x]!
theorem ShL.start (a : Nat) (f : Array α) : ShL a a f f := fun x => by
  rw [if_neg (by omega)]
  by_cases c : x = a
  · rw [if_pos c, c]
  · rw [if_neg c]
theorem ShL.step {a k : Nat} {f g : Array α} (h : ShL a k f g) (ha : a ≤ k) (hk : k + 1 < g.size) : ShL a (k + 1) f (swp g k (k + 1)) := fun x => by
  rw [swp_get g (i := k) (j := k + 1) (by omega) hk x, h k, h (k + 1), h x]
  by_cases c1 : x = k + 1
  · rw [if_pos c1, if_neg (by omega), if_pos rfl, if_neg (by omega), if_pos c1]
  · rw [if_neg c1]
    by_cases c2 : x = k
    · rw [if_pos c2, if_neg (by omega), if_neg (by omega), if_pos (by omega), c2]
    · rw [if_neg c2, if_neg c1, if_neg c2]
      by_cases c3 : a ≤ x ∧ x < k
      · rw [if_pos c3, if_pos (by omega)]
      · rw [if_neg c3, if_neg (by omega)]
theorem ShL.done {a b i : Nat} {d g : Array α} (hS : SWO (ltOf cf)) (H : Two cf tg a (a + 1) b d) (B : BsL cf tg a b i i d) (hP : PermIn a b d g) (h : ShL a (i - 1) d g) : Mrg cf tg a b d g := by
  have lo := B.lo
  have hb := B.hi
  refine ⟨hP, fun p q hp hpq hq => ?_⟩
  rw [h p, h q]
  by_cases c1 : q < i - 1
  · rw [if_pos (by omega), if_pos (by omega)]; exact H.R _ _ (by omega) (by omega) (by omega)
  · rw [if_neg (c := a ≤ q ∧ q < i - 1) (by omega)]
    by_cases c2 : q = i - 1
    · rw [if_pos c2, if_pos (by omega)]; exact B.less _ (by omega) (by omega)
    · rw [if_neg c2]
      by_cases c3 : p < i - 1
      · rw [if_pos (by omega)]
        exact H.R _ _ (by omega) (by omega) (by omega)
      · rw [if_neg (by omega)]
        by_cases c4 : p = i - 1
        · rw [if_pos c4]; exact B.more _ (by omega) (by omega)
        · rw [if_neg c4]; exact H.R _ _ (by omega) (by omega) (by omega)

/-! ### One element behind a row -/
structure BsR (cf : α → α → Int) (tg : α → Nat) (a m i j : Nat) (d : Array α) : Prop where
  lo : a ≤ i
  ij : i ≤ j
  hi : j ≤ m
  less : ∀ q, a ≤ q → q < i → tl cf tg d[q]! d[m]! = true
  more : ∀ q, j ≤ q → q < m → tl cf tg d[m]! d[q]! = true
theorem BsR.start {a m : Nat} {d : Array α} (h : Two cf tg a m (m + 1) d) : BsR cf tg a m a m d := ⟨Nat.le_refl _, h.am, Nat.le_refl _, fun q h1 h2 => absurd h1 (by omega), fun q h1 h2 => absurd h1 (by omega)⟩
theorem BsR.up (hS : SWO (ltOf cf)) {a m i j h : Nat} {d : Array α} (H : Two cf tg a m (m + 1) d) (B : BsR cf tg a m i j d) (hi : i ≤ h) (hj : h < j) (hl : ltOf cf d[m]! d[h]! = false) : BsR cf tg a m (h + 1) j d := by
  have lo := B.lo
  have hb := B.hi
  have e : tl cf tg d[h]! d[m]! = true := by rw [tl_lo hS (H.T h m (by omega) (by omega) (by omega) (by omega)), hl]; rfl
  refine ⟨by omega, by omega, hb, fun q h1 h2 => ?_, B.more⟩
  by_cases c : q = h
  · rw [c]; exact e
  · exact tl_trans hS (H.L q h (by omega) (by omega) (by omega)) e
theorem BsR.down (hS : SWO (ltOf cf)) {a m i j h : Nat} {d : Array α} (H : Two cf tg a m (m + 1) d) (B : BsR cf tg a m i j d) (hi : i ≤ h) (hj : h < j) (hl : ltOf cf d[m]! d[h]! = true) : BsR cf tg a m i h d := by
  have lo := B.lo
  have hb := B.hi
  have e : tl cf tg d[m]! d[h]! = true := by rw [tl_hi (H.T h m (by omega) (by omega) (by omega) (by omega))]; exact hl
  refine ⟨lo, hi, by omega, B.less, fun q h1 h2 => ?_⟩
  by_cases c : q = h
  · rw [c]; exact e
  · exact tl_trans hS e (H.L h q (by omega) (by omega) (by omega))
/-- What was at m stands at k now, [k, m) one place further up. -/
def ShR (m k : Nat) (f g : Array α) : Prop := ∀ x, g[x]! = if k < x ∧ x ≤ m then f[x - 1]! else if x = k then f[m]! else f[x]!
theorem ShR.start (m : Nat) (f : Array α) : ShR m m f f := fun x => by
  rw [if_neg (by omega)]
  by_cases c : x = m
  · rw [if_pos c, c]
  · rw [if_neg c]
theorem ShR.step {m k : Nat} {f g : Array α} (h : ShR m (k + 1) f g) (hk : k + 1 ≤ m) (hm : m < g.size) : ShR m k f (swp g (k + 1) k) := fun x => by
  rw [swp_get g (i := k + 1) (j := k) (by omega) (by omega) x, h k, h (k + 1), h x]
  by_cases c1 : x = k
  · rw [if_pos c1, if_neg (by omega), if_pos rfl, if_neg (by omega), if_pos c1]
  · rw [if_neg c1]
    by_cases c2 : x = k + 1
    · rw [if_pos c2, if_neg (by omega), if_neg (by omega), if_pos (by omega), c2]; rfl
    · rw [if_neg c2, if_neg c2, if_neg c1]
      by_cases c3 : k + 1 < x ∧ x ≤ m
      · rw [if_pos c3, if_pos (by omega)]
      · rw [if_neg c3, if_neg (by omega)]
theorem ShR.done {a m i : Nat} {d g : Array α} (hS : SWO (ltOf cf)) (H : Two cf tg a m (m + 1) d) (B : BsR cf tg a m i i d) (hP : PermIn a (m + 1) d g) (h : ShR m i d g) : Mrg cf tg a (m + 1) d g := by
  have lo := B.lo
  have hb := B.hi
  refine ⟨hP, fun p q hp hpq hq => ?_⟩
  rw [h p, h q]
  by_cases c1 : i < p
  · rw [if_pos (by omega), if_pos (by omega)]; exact H.L _ _ (by omega) (by omega) (by omega)
  · rw [if_neg (c := i < p ∧ p ≤ m) (by omega)]
    by_cases c2 : p = i
    · rw [if_pos c2, if_pos (by omega)]; exact B.more _ (by omega) (by omega)
    · rw [if_neg c2]
      by_cases c3 : i < q
      · rw [if_pos (by omega)]; exact H.L _ _ (by omega) (by omega) (by omega)
      · rw [if_neg (by omega)]
        by_cases c4 : q = i
        · rw [if_pos c4]; exact B.less _ (by omega) (by omega)
        · rw [if_neg c4]; exact H.L _ _ (by omega) (by omega) (by omega)

/-! ### Two rows of any length -/
/-- The search for where both are cut. mid = half of a + b. -/
structure BsM (cf : α → α → Int) (tg : α → Nat) (n s0 r0 s r : Nat) (d : Array α) : Prop where
  lo : s0 ≤ s
  sr : s ≤ r
  hi : r ≤ r0
  less : ∀ c, s0 ≤ c → c < s → tl cf tg d[c]! d[n - 1 - c]! = true
  more : ∀ c, r ≤ c → c < r0 → tl cf tg d[n - 1 - c]! d[c]! = true

def s0of (a m b : Nat) : Nat := if (a + b) / 2 < m then (a + b) / 2 + m - b else a
def r0of (a m b : Nat) : Nat := if (a + b) / 2 < m then (a + b) / 2 else m

theorem bounds {a m b c : Nat} (h1 : a < m) (h2 : m < b) (h3 : s0of a m b ≤ c) (h4 : c < r0of a m b) : a ≤ c ∧ c < m ∧ m ≤ (a + b) / 2 + m - 1 - c ∧ (a + b) / 2 + m - 1 - c < b := by
  unfold s0of at h3; unfold r0of at h4
  split at h3 <;> split at h4 <;> omega

theorem bounds' {a m b s : Nat} (h1 : a < m) (h2 : m < b) (h3 : s0of a m b ≤ s) (h4 : s ≤ r0of a m b) : a ≤ s ∧ s ≤ m ∧ s ≤ (a + b) / 2 ∧ m ≤ (a + b) / 2 + m - s ∧ (a + b) / 2 + m - s ≤ b ∧ (a + b) / 2 < b ∧ a ≤ (a + b) / 2 := by
  unfold s0of at h3; unfold r0of at h4
  split at h3 <;> split at h4 <;> omega

theorem sr0 {a m b : Nat} (h1 : a < m) (h2 : m < b) : s0of a m b ≤ r0of a m b := by
  unfold s0of r0of; split <;> omega

theorem BsM.start {a m b : Nat} {d : Array α} (h1 : a < m) (h2 : m < b) : BsM cf tg ((a + b) / 2 + m) (s0of a m b) (r0of a m b) (s0of a m b) (r0of a m b) d :=
  ⟨Nat.le_refl _, sr0 h1 h2, Nat.le_refl _, fun c h1 h2 => absurd h1 (by omega), fun c h1 h2 => absurd h1 (by omega)⟩
theorem BsM.up (hS : SWO (ltOf cf)) {a m b s r c : Nat} {d : Array α} (H : Two cf tg a m b d) (h1 : a < m) (h2 : m < b) (B : BsM cf tg ((a + b) / 2 + m) (s0of a m b) (r0of a m b) s r d) (hi : s ≤ c) (hj : c < r) (hl : ltOf cf d[(a + b) / 2 + m - 1 - c]! d[c]! = false) : BsM cf tg ((a + b) / 2 + m) (s0of a m b) (r0of a m b) (c + 1) r d := by
  have lo := B.lo
  have hb := B.hi
  have b1 := bounds h1 h2 (c := c) (by omega) (by omega)
  have e : tl cf tg d[c]! d[(a + b) / 2 + m - 1 - c]! = true := by rw [tl_lo hS (H.T _ _ (by omega) (by omega) (by omega) (by omega)), hl]; rfl
  refine ⟨by omega, by omega, hb, fun q h3 h4 => ?_, B.more⟩
  by_cases g : q = c
  · rw [g]; exact e
  · have b2 := bounds h1 h2 (c := q) (by omega) (by omega)
    exact tl_trans hS (tl_trans hS (H.L q c (by omega) (by omega) (by omega)) e) (H.R _ _ (by omega) (by omega) (by omega))
theorem BsM.down (hS : SWO (ltOf cf)) {a m b s r c : Nat} {d : Array α} (H : Two cf tg a m b d) (h1 : a < m) (h2 : m < b) (B : BsM cf tg ((a + b) / 2 + m) (s0of a m b) (r0of a m b) s r d) (hi : s ≤ c) (hj : c < r) (hl : ltOf cf d[(a + b) / 2 + m - 1 - c]! d[c]! = true) : BsM cf tg ((a + b) / 2 + m) (s0of a m b) (r0of a m b) s c d := by
  have lo := B.lo
  have hb := B.hi
  have b1 := bounds h1 h2 (c := c) (by omega) (by omega)
  have e : tl cf tg d[(a + b) / 2 + m - 1 - c]! d[c]! = true := by rw [tl_hi (H.T _ _ (by omega) (by omega) (by omega) (by omega))]; exact hl
  refine ⟨lo, hi, by omega, B.less, fun q h3 h4 => ?_⟩
  by_cases g : q = c
  · rw [g]; exact e
  · have b2 := bounds h1 h2 (c := q) (by omega) (by omega)
    exact tl_trans hS (H.R _ _ (by omega) (by omega) (by omega)) (tl_trans hS e (H.L c q (by omega) (by omega) (by omega)))

/-- Where both are cut: what stands left is less than what stands right. -/
structure Cut (cf : α → α → Int) (tg : α → Nat) (a m b s e : Nat) (d : Array α) : Prop where
  sa : a ≤ s
  sm : s ≤ m
  me : m ≤ e
  eb : e ≤ b
  half : s + (e - m) = (a + b) / 2
  x1 : ∀ p q, a ≤ p → p < s → e ≤ q → q < b → tl cf tg d[p]! d[q]! = true
  x2 : ∀ p q, m ≤ p → p < e → s ≤ q → q < m → tl cf tg d[p]! d[q]! = true

theorem BsM.cut (hS : SWO (ltOf cf)) {a m b s : Nat} {d : Array α} (H : Two cf tg a m b d) (h1 : a < m) (h2 : m < b) (B : BsM cf tg ((a + b) / 2 + m) (s0of a m b) (r0of a m b) s s d) : Cut cf tg a m b s ((a + b) / 2 + m - s) d := by
  have lo := B.lo
  have hb := B.hi
  have bs := bounds' h1 h2 lo hb
  refine ⟨bs.1, bs.2.1, bs.2.2.2.1, bs.2.2.2.2.1, by omega, fun p q hp hps hq hqb => ?_, fun p q hp hpe hq hqm => ?_⟩
  · by_cases c : s0of a m b < s
    · have b2 := bounds h1 h2 (c := s - 1) (by omega) (by omega)
      have e := B.less (s - 1) (by omega) (by omega)
      have e2 : tl cf tg d[p]! d[(a + b) / 2 + m - 1 - (s - 1)]! = true := by
        by_cases g : p = s - 1
        · rw [g]; exact e
        · exact tl_trans hS (H.L p (s - 1) hp (by omega) (by omega)) e
      by_cases g : q = (a + b) / 2 + m - 1 - (s - 1)
      · rw [g]; exact e2
      · exact tl_trans hS e2 (H.R _ q (by omega) (by omega) hqb)
    · exfalso
      have : s = s0of a m b := by omega
      unfold s0of at this
      split at this <;> omega
  · by_cases c : s < r0of a m b
    · have b2 := bounds h1 h2 (c := s) (by omega) (by omega)
      have e := B.more s (by omega) (by omega)
      have e2 : tl cf tg d[p]! d[s]! = true := by
        by_cases g : p = (a + b) / 2 + m - 1 - s
        · rw [g]; exact e
        · exact tl_trans hS (H.R p _ hp (by omega) (by omega)) e
      by_cases g : q = s
      · rw [g]; exact e2
      · exact tl_trans hS e2 (H.L s q (by omega) (by omega) hqm)
    · exfalso
      have : s = r0of a m b := by omega
      unfold r0of at this
      split at this <;> omega

/-- Behind the turning: two pairs of rows. -/
structure Four (cf : α → α → Int) (tg : α → Nat) (a s e b : Nat) (d g : Array α) : Prop where
  perm : PermIn a b d g
  L : Two cf tg a s ((a + b) / 2) g
  R : Two cf tg ((a + b) / 2) e b g
  X : ∀ p q, a ≤ p → p < (a + b) / 2 → (a + b) / 2 ≤ q → q < b → tl cf tg g[p]! g[q]! = true

theorem Cut.four {a m b s e : Nat} {d g : Array α} (H : Two cf tg a m b d) (C : Cut cf tg a m b s e d) (hP : PermIn a b d g) (hR : Rot s m e d g) : Four cf tg a s e b d g := by
  obtain ⟨c1, c2, c3, c4, c5, x1, x2⟩ := C
  obtain ⟨r1, r2, r3⟩ := hR
  have hbs := H.bs
  have hs : g.size = d.size := hP.1
  have lo := fun k (h1 : a ≤ k) (h2 : k < s) => r1 k (Or.inl h2)
  have l2 := fun k (h1 : s ≤ k) (h2 : k < (a + b) / 2) => r2 k h1 (by omega)
  have l3 := fun k (h1 : (a + b) / 2 ≤ k) (h2 : k < e) => r3 k (by omega) h2
  have l4 := fun k (h1 : e ≤ k) (h2 : k < b) => r1 k (Or.inr h1)
  refine ⟨hP, ⟨c1, by omega, by omega, ?_, ?_, ?_⟩, ⟨by omega, c4, by omega, ?_, ?_, ?_⟩, ?_⟩
  · intro p q hp hpq hq; rw [lo p hp (by omega), lo q (by omega) hq]; exact H.L _ _ hp hpq (by omega)
  · intro p q hp hpq hq; rw [l2 p hp (by omega), l2 q (by omega) hq]; exact H.R _ _ (by omega) (by omega) (by omega)
  · intro p q hp hpq hq hqb; rw [lo p hp hpq, l2 q hq hqb]; exact H.T _ _ hp (by omega) (by omega) (by omega)
  · intro p q hp hpq hq; rw [l3 p hp (by omega), l3 q (by omega) hq]; exact H.L _ _ (by omega) (by omega) (by omega)
  · intro p q hp hpq hq; rw [l4 p hp (by omega), l4 q (by omega) hq]; exact H.R _ _ (by omega) (by omega) (by omega)
  · intro p q hp hpq hq hqb; rw [l3 p hp hpq, l4 q hq hqb]; exact H.T _ _ (by omega) (by omega) (by omega) hqb
  · intro p q hp hpm hq hqb
    by_cases e1 : p < s
    · rw [lo p hp e1]
      by_cases e2 : q < e
      · rw [l3 q hq e2]; exact H.L _ _ (by omega) (by omega) (by omega)
      · rw [l4 q (by omega) hqb]; exact x1 _ _ hp e1 (by omega) hqb
    · rw [l2 p (by omega) hpm]
      by_cases e2 : q < e
      · rw [l3 q hq e2]; exact x2 _ _ (by omega) (by omega) (by omega) (by omega)
      · rw [l4 q (by omega) hqb]; exact H.R _ _ (by omega) (by omega) hqb

/-- One of the pairs has an empty row: it is ordered as it lies. -/
theorem Two.trivial {a m b : Nat} {d : Array α} (h : Two cf tg a m b d) (hc : ¬ (a < m ∧ m < b)) : Mrg cf tg a b d d := by
  refine ⟨permIn_refl _ _ _, ?_⟩
  have h1 := h.am
  have h2 := h.mb
  by_cases c : a < m
  · have : m = b := by omega
    subst this; exact h.L
  · have : a = m := by omega
    subst this; exact h.R

theorem Two.congr {a m b : Nat} {d d' : Array α} (h : Two cf tg a m b d) (hs : d'.size = d.size) (he : ∀ k, a ≤ k → k < b → d'[k]! = d[k]!) : Two cf tg a m b d' :=
  have h1 := h.am
  have h2 := h.mb
  ⟨h.am, h.mb, by rw [hs]; exact h.bs, h.L.congr fun k h3 h4 => he k h3 (by omega), h.R.congr fun k h3 h4 => he k (by omega) h4, fun p q h3 h4 h5 h6 => by rw [he p h3 (by omega), he q (by omega) h6]; exact h.T p q h3 h4 h5 h6⟩

/-- Behind the left pair's merge the right pair lies as it lay. -/
theorem Four.right {a s e b : Nat} {d g g1 : Array α} (h : Four cf tg a s e b d g) (h1 : Mrg cf tg a ((a + b) / 2) g g1) : Two cf tg ((a + b) / 2) e b g1 :=
  h.R.congr h1.1.1 fun k h3 h4 => h1.1.2.1 k (Or.inr h3)

theorem Four.done {a s e b : Nat} {d g g1 g2 : Array α} (h : Four cf tg a s e b d g) (h1 : Mrg cf tg a ((a + b) / 2) g g1) (h2 : Mrg cf tg ((a + b) / 2) b g1 g2) : Mrg cf tg a b d g2 := by
  have bL := h.L.bs
  have bR := h.R.bs
  have c1 := h.L.am
  have c2 := h.L.mb
  have c3 := h.R.am
  have c4 := h.R.mb
  have s1 : g1.size = g.size := h1.1.1
  refine ⟨permIn_trans _ _ _ _ _ h.perm (permIn_trans _ _ _ _ _ (permIn_mono g g1 a ((a + b) / 2) a b (Nat.le_refl _) (by omega) (by omega) h1.1) (permIn_mono g1 g2 ((a + b) / 2) b a b (by omega) (Nat.le_refl _) (by omega) h2.1)), ?_⟩
  refine St.join (c := (a + b) / 2) (h1.2.congr fun k h3 h4 => h2.1.2.1 k (Or.inl h4)) h2.2 ?_
  intro p q hp hpm hq hqb
  rw [h2.1.2.1 p (Or.inl hpm)]
  refine permIn_all g g1 a ((a + b) / 2) (fun x => tl cf tg x g2[q]! = true) (by omega) h1.1 (fun k hk1 hk2 => ?_) p hp hpm
  refine permIn_all g1 g2 ((a + b) / 2) b (fun x => tl cf tg g[k]! x = true) (by omega) h2.1 (fun l hl1 hl2 => ?_) q hq hqb
  rw [h1.1.2.1 l (Or.inr hl1)]
  exact h.X k l hk1 hk2 hl1 hl2

/-! ### Blocks -/
/-- The tags rise from block to block, each block is in order. -/
structure Blo (cf : α → α → Int) (tg : α → Nat) (n : Nat) (S : Nat → Nat → Prop) (d : Array α) : Prop where
  size : d.size = n
  same : ∀ p q, p < q → q < n → S p q → tl cf tg d[p]! d[q]! = true
  other : ∀ p q, p < q → q < n → ¬ S p q → tg d[p]! < tg d[q]!

theorem Blo.conv {n : Nat} {S S' : Nat → Nat → Prop} {d : Array α} (h : Blo cf tg n S d) (he : ∀ p q, p < q → q < n → (S p q ↔ S' p q)) : Blo cf tg n S' d :=
  ⟨h.size, fun p q h1 h2 h3 => h.same p q h1 h2 ((he p q h1 h2).2 h3), fun p q h1 h2 h3 => h.other p q h1 h2 (fun x => h3 ((he p q h1 h2).1 x))⟩

/-- A range is put in order; no block reaches over its ends. -/
theorem Blo.step {n a b : Nat} {S : Nat → Nat → Prop} {d d' : Array α} (h : Blo cf tg n S d) (hab : a ≤ b) (hbn : b ≤ n) (hS : ∀ p q, p < q → q < n → S p q → ((a ≤ p ∧ p < b) ↔ (a ≤ q ∧ q < b))) (hM : Mrg cf tg a b d d') : Blo cf tg n (fun p q => S p q ∨ a ≤ p ∧ q < b) d' := by
  have hs := h.size
  have out := hM.1.2.1
  refine ⟨by rw [hM.1.1, hs], ?_, ?_⟩
  · intro p q hpq hq hc
    by_cases c : a ≤ p ∧ q < b
    · exact hM.2 p q c.1 hpq c.2
    · have hs' : S p q := by rcases hc with hc | hc
                             · exact hc
                             · exact absurd hc c
      have := hS p q hpq hq hs'
      rw [out p (by omega), out q (by omega)]
      exact h.same p q hpq hq hs'
  · intro p q hpq hq hc
    have c : ¬ (a ≤ p ∧ q < b) := fun x => hc (Or.inr x)
    have c0 : ¬ S p q := fun x => hc (Or.inl x)
    by_cases cp : a ≤ p ∧ p < b
    · rw [out q (by omega)]
      refine permIn_all d d' a b (fun x => tg x < tg d[q]!) (by omega) hM.1 (fun k h1 h2 => ?_) p cp.1 cp.2
      refine h.other k q (by omega) hq (fun x => ?_)
      have := hS k q (by omega) hq x
      omega
    · rw [out p (by omega)]
      by_cases cq : a ≤ q ∧ q < b
      · refine permIn_all d d' a b (fun x => tg d[p]! < tg x) (by omega) hM.1 (fun k h1 h2 => ?_) q cq.1 cq.2
        refine h.other p k (by omega) (by omega) (fun x => ?_)
        have := hS p k (by omega) (by omega) x
        omega
      · rw [out q (by omega)]
        exact h.other p q hpq hq c0

/-- In one block of so many. -/
def Sb (bs p q : Nat) : Prop := ∃ k, k * bs ≤ p ∧ q < (k + 1) * bs

theorem Sb.at_edge {bs p q k : Nat} (h : Sb bs p q) (hpq : p < q) (e : p < k * bs) : q < k * bs := by
  obtain ⟨j, h1, h2⟩ := h
  have : j < k := by
    apply Nat.lt_of_not_le
    intro hc
    have := Nat.mul_le_mul_right bs hc
    omega
  have := Nat.mul_le_mul_right bs (show j + 1 ≤ k from this)
  omega

theorem Sb.double {bs p q : Nat} (h : Sb bs p q) : Sb (bs * 2) p q := by
  obtain ⟨k, h1, h2⟩ := h
  refine ⟨k / 2, ?_, ?_⟩
  · have e : k / 2 * (bs * 2) = (k / 2 * 2) * bs := by rw [Nat.mul_comm bs 2, Nat.mul_assoc]
    rw [e]
    exact Nat.le_trans (Nat.mul_le_mul_right _ (by omega)) h1
  · have e : (k / 2 + 1) * (bs * 2) = ((k / 2 + 1) * 2) * bs := by rw [Nat.mul_comm bs 2, Nat.mul_assoc]
    rw [e]
    exact Nat.lt_of_lt_of_le h2 (Nat.mul_le_mul_right _ (by omega))

/-- All the numbers of the beginning. -/
theorem Blo.start {d : Array α} (hA : Asc tg 0 d.size d) : Blo cf tg d.size (fun p q => Sb 20 p q ∧ q < 0) d :=
  ⟨rfl, fun p q _ _ h => absurd h.2 (by omega), fun p q h1 h2 _ => hA p q (by omega) h1 h2⟩

/-- The first pass: the k'th block of bs. -/
theorem Blo.next1 {n k bs b : Nat} {d d' : Array α} (h : Blo cf tg n (fun p q => Sb bs p q ∧ q < k * bs) d) (hb : b = (k + 1) * bs ∨ (b = n ∧ n ≤ (k + 1) * bs)) (hab : k * bs ≤ b) (hbn : b ≤ n) (hM : Mrg cf tg (k * bs) b d d') : Blo cf tg n (fun p q => Sb bs p q ∧ q < (k + 1) * bs) d' := by
  refine (h.step hab hbn (fun p q hpq hq hx => ?_) hM).conv (fun p q hpq hq => ?_)
  · have := hx.2
    omega
  · have ek : (k + 1) * bs = k * bs + bs := by rw [Nat.add_mul, Nat.one_mul]
    constructor
    · rintro (⟨h1, h2⟩ | ⟨h1, h2⟩)
      · exact ⟨h1, by omega⟩
      · exact ⟨⟨k, h1, by omega⟩, by omega⟩
    · rintro ⟨h1, h2⟩
      by_cases c : q < k * bs
      · exact Or.inl ⟨h1, c⟩
      · right
        refine ⟨?_, by omega⟩
        apply Nat.le_of_not_lt
        intro hc
        have := h1.at_edge hpq hc
        omega

/-- A row of blocks of bs, of which those ahead of k pairs have been merged. -/
def Sm (bs k p q : Nat) : Prop := Sb bs p q ∨ Sb (bs * 2) p q ∧ q < k * (bs * 2)

theorem Blo.all1 {n k bs : Nat} {d : Array α} (h : Blo cf tg n (fun p q => Sb bs p q ∧ q < k * bs) d) (hk : n ≤ k * bs) : Blo cf tg n (Sm bs 0) d :=
  h.conv fun p q hpq hq => ⟨fun h1 => Or.inl h1.1, fun h1 => by
    rcases h1 with h1 | ⟨_, h1⟩
    · exact ⟨h1, by omega⟩
    · omega⟩

theorem Sm.edge {bs k p q : Nat} (h : Sm bs k p q) (hpq : p < q) {j : Nat} (hj : k ≤ j) (e : p < j * (bs * 2)) : q < j * (bs * 2) := by
  rcases h with h | ⟨h, h2⟩
  · exact (h.double).at_edge hpq e
  · exact h.at_edge hpq e

/-- What is merged next. -/
theorem Blo.two {n k bs b : Nat} {d : Array α} (h : Blo cf tg n (Sm bs k) d) (hb : b ≤ (k + 1) * (bs * 2)) (hmb : k * (bs * 2) + bs ≤ b) (hbn : b ≤ n) : Two cf tg (k * (bs * 2)) (k * (bs * 2) + bs) b d := by
  have hs := h.size
  have e2 : k * (bs * 2) = (k * 2) * bs := by rw [Nat.mul_comm bs 2, Nat.mul_assoc]
  have e3 : (k * 2 + 1) * bs = (k * 2) * bs + bs := by rw [Nat.add_mul, Nat.one_mul]
  have e4 : (k * 2 + 1 + 1) * bs = (k * 2) * bs + bs + bs := by rw [Nat.add_mul, e3, Nat.one_mul]
  have e5 : (k + 1) * (bs * 2) = (k * 2) * bs + bs + bs := by rw [Nat.add_mul, e2]; omega
  refine ⟨by omega, hmb, by omega, fun p q hp hpq hq => ?_, fun p q hp hpq hq => ?_, fun p q hp hpm hq hqb => ?_⟩
  · exact h.same p q hpq (by omega) (Or.inl ⟨k * 2, by omega, by omega⟩)
  · exact h.same p q hpq (by omega) (Or.inl ⟨k * 2 + 1, by omega, by omega⟩)
  · refine h.other p q (by omega) (by omega) (fun hx => ?_)
    rcases hx with hx | ⟨_, hx⟩
    · have := hx.at_edge (k := k * 2 + 1) (by omega) (by omega)
      omega
    · omega

theorem Blo.next2 {n k bs b : Nat} {d d' : Array α} (h : Blo cf tg n (Sm bs k) d) (hb : b = (k + 1) * (bs * 2) ∨ (b = n ∧ n ≤ (k + 1) * (bs * 2))) (hab : k * (bs * 2) ≤ b) (hbn : b ≤ n) (hM : Mrg cf tg (k * (bs * 2)) b d d') : Blo cf tg n (Sm bs (k + 1)) d' := by
  have ek : (k + 1) * (bs * 2) = k * (bs * 2) + bs * 2 := by rw [Nat.add_mul, Nat.one_mul]
  refine (h.step hab hbn (fun p q hpq hq hx => ?_) hM).conv (fun p q hpq hq => ?_)
  · have g1 := fun e => hx.edge hpq (j := k) (Nat.le_refl _) e
    have g2 := fun e => hx.edge hpq (j := k + 1) (Nat.le_succ _) e
    omega
  · unfold Sm
    constructor
    · rintro ((h1 | ⟨h1, h2⟩) | ⟨h1, h2⟩)
      · exact Or.inl h1
      · exact Or.inr ⟨h1, by omega⟩
      · exact Or.inr ⟨⟨k, h1, by omega⟩, by omega⟩
    · rintro (h1 | ⟨h1, h2⟩)
      · exact Or.inl (Or.inl h1)
      · by_cases c : q < k * (bs * 2)
        · exact Or.inl (Or.inr ⟨h1, c⟩)
        · right
          refine ⟨?_, by omega⟩
          apply Nat.le_of_not_lt
          intro hc
          have := h1.at_edge hpq hc
          omega

/-- A last block without a fellow stays as it is. -/
theorem Blo.alone {n k bs : Nat} {d : Array α} (h : Blo cf tg n (Sm bs k) d) (hn : n ≤ k * (bs * 2) + bs) : Blo cf tg n (Sm bs (k + 1)) d := by
  have e2 : k * (bs * 2) = (k * 2) * bs := by rw [Nat.mul_comm bs 2, Nat.mul_assoc]
  have e3 : (k * 2 + 1) * bs = (k * 2) * bs + bs := by rw [Nat.add_mul, Nat.one_mul]
  have ek : (k + 1) * (bs * 2) = k * (bs * 2) + bs * 2 := by rw [Nat.add_mul, Nat.one_mul]
  refine h.conv fun p q hpq hq => ⟨fun hx => ?_, fun hx => ?_⟩
  · rcases hx with hx | ⟨h1, h2⟩
    · exact Or.inl hx
    · exact Or.inr ⟨h1, by omega⟩
  · rcases hx with hx | ⟨h1, h2⟩
    · exact Or.inl hx
    · by_cases c : q < k * (bs * 2)
      · exact Or.inr ⟨h1, c⟩
      · left
        refine ⟨k * 2, ?_, by omega⟩
        apply Nat.le_of_not_lt
        intro hc
        have := h1.at_edge (k := k) hpq (by omega)
        omega

theorem Blo.again {n k bs : Nat} {d : Array α} (h : Blo cf tg n (Sm bs k) d) (hn : n ≤ k * (bs * 2)) : Blo cf tg n (Sm (bs * 2) 0) d :=
  h.conv fun p q hpq hq => ⟨fun hx => by
    rcases hx with hx | ⟨h1, h2⟩
    · exact Or.inl hx.double
    · exact Or.inl h1, fun hx => by
    rcases hx with hx | ⟨_, h2⟩
    · exact Or.inr ⟨hx, by omega⟩
    · omega⟩

theorem Blo.done {n bs : Nat} {d : Array α} (h : Blo cf tg n (Sm bs 0) d) (hn : n ≤ bs) : St cf tg 0 n d := fun p q hp hpq hq => h.same p q hpq hq (Or.inl ⟨0, by omega, by omega⟩)
end Go.Proofs.YtojocffjajcdmaaDoor.ST
/- A row of elements of k cells while it is sorted: what is known of the world, and what a walk asks of it. -/
namespace Go.Proofs.YtojocffjajcdmaaDoor.ST
open Go.Shelf Go.RowKit Go.Lib Go.Sort Go.Proofs
set_option linter.unusedVariables false
set_option linter.unusedSimpArgs false
variable {α : Type} [Inhabited α]

/-- W holds the row dk; but for the row's block, what was there in w0 is as it was. -/
structure SB (enc : α → List Value) (k : Nat) (w0 : World) (blk off : Nat) (dk : Array α) (W : World) : Prop where
  os : W.os = w0.os
  tape : W.tape = w0.tape
  output : W.output = w0.output
  size : w0.heap.size ≤ W.heap.size
  far : ∀ b, b < w0.heap.size → b ≠ blk → W.heap[b]? = w0.heap[b]?
  lt : blk < w0.heap.size
  hk : ∀ x, (enc x).length = k
  h1 : ∀ x, ∀ v ∈ enc x, v.oneCell' = true
  holds : HoldsK enc k W blk off dk

variable {enc : α → List Value} {k : Nat} {w0 W : World} {blk off : Nat} {dk : Array α}

theorem holdsK_of_block {W W' : World} (h : HoldsK enc k W blk off dk) (he : W'.heap[blk]? = W.heap[blk]?) : HoldsK enc k W' blk off dk := by
  intro j hj
  have := h j hj
  refine ⟨?_, ?_⟩
  · rw [← this.1]; unfold World.cell?; rw [he]
  · rw [← this.2]; unfold World.frozen?; rw [he]

theorem SB.start (hk : ∀ x, (enc x).length = k) (h1 : ∀ x, ∀ v ∈ enc x, v.oneCell' = true) (hH : HoldsK enc k w0 blk off dk) (hb : blk < w0.heap.size) : SB enc k w0 blk off dk w0 :=
  ⟨rfl, rfl, rfl, Nat.le_refl _, fun _ _ _ => rfl, hb, hk, h1, hH⟩

theorem SB.below {W' : World} (h : SB enc k w0 blk off dk W) (hb : Below W.heap.size W W') : SB enc k w0 blk off dk W' :=
  have hl : ∀ b, b < w0.heap.size → b < W.heap.size := fun b hb => Nat.lt_of_lt_of_le hb h.size
  ⟨hb.os.trans h.os, hb.tape.trans h.tape, hb.output.trans h.output, Nat.le_trans h.size hb.size, fun b h1 h2 => (hb.block b (hl b h1)).trans (h.far b h1 h2), h.lt, h.hk, h.h1, holdsK_of_block h.holds (hb.block blk (hl blk h.lt))⟩

theorem SB.drew (h : SB enc k w0 blk off dk W) : SB enc k w0 blk off dk W.drew := h.below (Below.refl _ _).drew

theorem SB.alloc (h : SB enc k w0 blk off dk W) (o : Obj) : SB enc k w0 blk off dk (W.alloc o) := h.below ((Below.refl _ _).alloc (Nat.le_refl _) o)

theorem SB.ld (h : SB enc k w0 blk off dk W) (P : Program) (i : Nat) (hi : i < dk.size) : Sem.run P (loadCellsFrom ⟨blk, off + i * k, none⟩ 0 k #[]) W = .ok (enc dk[i]!).toArray W :=
  run_loadCellsFrom_list P _ _ _ k (h.hk _) (HoldsK.cells h.holds h.hk hi)

theorem SB.ldR (h : SB enc k w0 blk off dk W) (P : Program) (i : Nat) (hi : i < dk.size) (n : Nat) (os : Array Obj) :
    Sem.run P (loadCellsFrom ⟨blk, off + i * k, none⟩ 0 k #[]) (grow (redrawn W n) os) = .ok (enc dk[i]!).toArray (grow (redrawn W n) os) := (h.below (below_regrown W n os)).ld P i hi

theorem SB.st1 (h : SB enc k w0 blk off dk W) (P : Program) (i : Nat) (hi : i < dk.size) (y : α) :
    Sem.run P (storeCells ⟨blk, off + i * k, none⟩ (enc y) 0) W.drew = .ok () (W.drew.setCells blk (off + i * k) (enc y)) :=
  stores_of_holds P h.drew.holds (i * k) _ (by rw [h.hk, size_flatK]; exact rowK_bnd dk k i hi) (h.h1 _)

theorem SB.st2 (h : SB enc k w0 blk off dk W) (P : Program) (i j : Nat) (hi : i < dk.size) (hj : j < dk.size) (y x : α) :
    Sem.run P (storeCells ⟨blk, off + j * k, none⟩ (enc x) 0) (W.drew.setCells blk (off + i * k) (enc y)) = .ok () ((W.drew.setCells blk (off + i * k) (enc y)).setCells blk (off + j * k) (enc x)) :=
  stores_of_holds P (holds_setCells_c h.drew.holds (i * k) _ (by rw [h.hk, size_flatK]; exact rowK_bnd dk k i hi)) (j * k) _ (by rw [h.hk, size_setMany, size_flatK]; exact rowK_bnd dk k j hj) (h.h1 _)

theorem heap_setCells_ne (b : Nat) : ∀ (vs : List Value) (o : Nat) (X : World) (c : Nat), c ≠ b → (X.setCells b o vs).heap[c]? = X.heap[c]?
  | [], _, _, _, _ => rfl
  | v :: r, o, X, c, h => by
    rw [World.setCells, heap_setCells_ne b r (o + 1) _ c h]
    exact Below.heap_setCell X ⟨b, o, none⟩ v c h
theorem setCells_streams (b : Nat) : ∀ (vs : List Value) (o : Nat) (X : World), (X.setCells b o vs).os = X.os ∧ (X.setCells b o vs).tape = X.tape ∧ (X.setCells b o vs).output = X.output
  | [], _, _ => ⟨rfl, rfl, rfl⟩
  | v :: r, o, X => by
    rw [World.setCells]
    exact setCells_streams b r (o + 1) _

theorem SB.swap (h : SB enc k w0 blk off dk W) (i j : Nat) (hi : i < dk.size) (hj : j < dk.size) :
    SB enc k w0 blk off (swp dk i j) ((W.drew.setCells blk (off + i * k) (enc dk[j]!)).setCells blk (off + j * k) (enc dk[i]!)) := by
  have s1 := setCells_streams blk (enc dk[j]!) (off + i * k) W.drew
  have s2 := setCells_streams blk (enc dk[i]!) (off + j * k) (W.drew.setCells blk (off + i * k) (enc dk[j]!))
  refine ⟨s2.1.trans (s1.1.trans h.drew.os), s2.2.1.trans (s1.2.1.trans h.drew.tape), s2.2.2.trans (s1.2.2.trans h.drew.output), ?_, fun b h1 h2 => ?_, h.lt, h.hk, h.h1, ?_⟩
  · simp only [size_setCells]; exact h.drew.size
  · rw [heap_setCells_ne _ _ _ _ _ h2, heap_setCells_ne _ _ _ _ _ h2]; exact h.drew.far b h1 h2
  · have g1 := holds_setCells_c h.drew.holds (i * k) (enc dk[j]!) (by rw [h.hk, size_flatK]; exact rowK_bnd dk k i hi)
    have g2 := holds_setCells_c g1 (j * k) (enc dk[i]!) (by rw [h.hk, size_setMany, size_flatK]; exact rowK_bnd dk k j hj)
    rw [setMany_swp enc k h.hk dk i j hi hj] at g2
    exact g2

/-- What is asked of the comparing function. -/
def CmpB (P : Program) (g : Nat) (la cb : Array Value) (enc : α → List Value) (k : Nat) (cf : α → α → Int) (w0 : World) (blk off n : Nat) : Prop :=
  ∀ (dk : Array α) (W : World), SB enc k w0 blk off dk W → dk.size = n → ∀ x y : α,
    Calls P g (la ++ (#[.agg (enc x).toArray, .agg (enc y).toArray] ++ cb)) W fun e w' => e = .returned (.int .i64 (cf x y)) ∧ Below W.heap.size W w'

theorem CmpB.reg {P : Program} {g : Nat} {la cb : Array Value} {cf : α → α → Int} {n : Nat} (hC : CmpB P g la cb enc k cf w0 blk off n) (h : SB enc k w0 blk off dk W) (hs : dk.size = n) (x y : α) (d : Nat) (os : Array Obj) :
    Calls P g (la ++ (#[.agg (enc x).toArray, .agg (enc y).toArray] ++ cb)) (grow (redrawn W d) os) fun e w'' => e = .returned (.int .i64 (cf x y)) ∧ ∃ p : Regrown, w'' = grow (redrawn W p.d) p.os :=
  Calls.regrown_of (hC dk _ (h.below (below_regrown W d os)) hs x y)

end Go.Proofs.YtojocffjajcdmaaDoor.ST
/- slices.SortStableFunc: the exchange of ranges and the turning of rows. -/
namespace Go.Proofs.YtojocffjajcdmaaDoor.ST
open Go.Shelf Go.RowKit Go.Lib Go.Sort Go.Proofs
set_option linter.unusedVariables false
set_option linter.unusedSimpArgs false

/-- What the family asks of the program. -/
structure Lay (P : Program) (k : Nat) : Prop where
  mixed : P.follows .mixedOrders = true
  p176 : P.funcs[176]? = some Tryd.f176
  e176 : ∀ args w, (callFunc 176 args).run P w = .ok (.enter 176 args) w
  p177 : P.funcs[177]? = some Tryd.f177
  e177 : ∀ args w, (callFunc 177 args).run P w = .ok (.enter 177 args) w
  p150 : P.funcs[150]? = some Tryd.f150
  e150 : ∀ args w, (callFunc 150 args).run P w = .ok (.enter 150 args) w
  p196 : P.funcs[196]? = some Tryd.f196
  e196 : ∀ args w, (callFunc 196 args).run P w = .ok (.enter 196 args) w
  p212 : P.funcs[212]? = some Tryd.f212
  e212 : ∀ args w, (callFunc 212 args).run P w = .ok (.enter 212 args) w
  t0 : P.underlying 0 = some (TypeDesc.tuple #[])
  a0 : ∀ w, (isAgg 0).run P w = .ok false w
  z0 : ∀ w, (Go.sizeOf 0).run P w = .ok 1 w
  v0 : ∀ w, (zeroValue 0).run P w = .ok (Value.tuple #[]) w
  t3 : P.underlying 3 = some (TypeDesc.int IntKind.i64)
  a3 : ∀ w, (isAgg 3).run P w = .ok false w
  z3 : ∀ w, (Go.sizeOf 3).run P w = .ok 1 w
  v3 : ∀ w, (zeroValue 3).run P w = .ok (Value.int IntKind.i64 0) w
  t4 : P.underlying 4 = some (TypeDesc.bool)
  a4 : ∀ w, (isAgg 4).run P w = .ok false w
  z4 : ∀ w, (Go.sizeOf 4).run P w = .ok 1 w
  v4 : ∀ w, (zeroValue 4).run P w = .ok (Value.bool false) w
  t22 : P.underlying 22 = some (TypeDesc.slice 33)
  a22 : ∀ w, (isAgg 22).run P w = .ok false w
  z22 : ∀ w, (Go.sizeOf 22).run P w = .ok 1 w
  v22 : ∀ w, (zeroValue 22).run P w = .ok (Value.slice none 0 0) w
  t153 : P.underlying 153 = some (TypeDesc.func #[33, 33] #[3] false)
  a153 : ∀ w, (isAgg 153).run P w = .ok false w
  z153 : ∀ w, (Go.sizeOf 153).run P w = .ok 1 w
  v153 : ∀ w, (zeroValue 153).run P w = .ok (Value.nilFunc) w
  t200 : P.underlying 200 = some (TypeDesc.int IntKind.u64)
  a200 : ∀ w, (isAgg 200).run P w = .ok false w
  z200 : ∀ w, (Go.sizeOf 200).run P w = .ok 1 w
  v200 : ∀ w, (zeroValue 200).run P w = .ok (Value.int IntKind.u64 0) w
  aE : ∀ w, (isAgg 33).run P w = .ok true w
  zE : ∀ w, (Go.sizeOf 33).run P w = .ok k w

theorem lay : Lay Tryd.prog 4 where
  mixed := by kernel_rfl
  p176 := Tryd.func176
  e176 := enters_of Tryd.func176 (by kernel_rfl) rfl
  p177 := Tryd.func177
  e177 := enters_of Tryd.func177 (by kernel_rfl) rfl
  p150 := Tryd.func150
  e150 := enters_of Tryd.func150 (by kernel_rfl) rfl
  p196 := Tryd.func196
  e196 := enters_of Tryd.func196 (by kernel_rfl) rfl
  p212 := Tryd.func212
  e212 := enters_of Tryd.func212 (by kernel_rfl) rfl
  t0 := Tryd.underlying0
  a0 := Tryd.isAgg0
  z0 := Tryd.sizeOf0
  v0 := Tryd.zeroValue0
  t3 := Tryd.underlying3
  a3 := Tryd.isAgg3
  z3 := Tryd.sizeOf3
  v3 := Tryd.zeroValue3
  t4 := Tryd.underlying4
  a4 := Tryd.isAgg4
  z4 := Tryd.sizeOf4
  v4 := Tryd.zeroValue4
  t22 := Tryd.underlying22
  a22 := Tryd.isAgg22
  z22 := Tryd.sizeOf22
  v22 := Tryd.zeroValue22
  t153 := Tryd.underlying153
  a153 := Tryd.isAgg153
  z153 := Tryd.sizeOf153
  v153 := Tryd.zeroValue153
  t200 := Tryd.underlying200
  a200 := Tryd.isAgg200
  z200 := Tryd.sizeOf200
  v200 := Tryd.zeroValue200
  aE := Tryd.isAgg33
  zE := Tryd.sizeOf33

variable {P : Program} {α : Type} [Inhabited α]

set_option maxHeartbeats 4000000 in
set_option maxRecDepth 1000000 in
/-- slices.swapRangeCmpFunc. -/
theorem swr_calls (k : Nat) (L : Lay P k) (enc : α → List Value) (g : Nat) (la cb : Array Value) (blk off cap a b n : Nat) (d : Array α) (w0 w : World)
    (S : SB enc k w0 blk off d w) (hab : a + n ≤ b) (hb : b + n ≤ d.size) (hsz : d.size < 4611686018427387904) :
    Calls P 212 #[.slice (some ⟨blk, off, none⟩) d.size cap, .int .i64 a, .int .i64 b, .int .i64 n, .func (.func g) la cb] w fun e w' => e = .returned (.tuple #[]) ∧ SB enc k w0 blk off (swr d a b n) w' := by
  have mixed := L.mixed; have t0 := L.t0; have a0 := L.a0; have z0 := L.z0; have v0 := L.v0; have t3 := L.t3; have a3 := L.a3; have z3 := L.z3; have v3 := L.v3; have t4 := L.t4; have a4 := L.a4; have z4 := L.z4; have v4 := L.v4; have t22 := L.t22; have a22 := L.a22; have z22 := L.z22; have v22 := L.v22; have t153 := L.t153; have a153 := L.a153; have z153 := L.z153; have v153 := L.v153; have t200 := L.t200; have a200 := L.a200; have z200 := L.z200; have v200 := L.v200; have aE := L.aE; have zE := L.zE; have u22 := run_underlying L.t22; have u3 := run_underlying L.t3; have u4 := run_underlying L.t4; have u200 := run_underlying L.t200
  have FG := L.p212
  have hk := S.hk
  have HK := Lib.hid hk
  clear hk
  have S0 : Aside (SB enc k w0 blk off d w) := S
  clear S
  go_enter FG, Tryd.ntmps212
  go_wp2
  go_loopg [10] n (fun kx s8 wr => ∃ (i : Nat), s8 = .int .i64 i ∧ i ≤ n ∧ n - i ≤ kx ∧ Aside (SB enc k w0 blk off (swr d a b i) wr))
  case atStart => exact ⟨0, rfl, Nat.zero_le _, Nat.le_refl _, S0⟩
  case round =>
    clear S0
    obtain ⟨i, rfl, hin, hkx, S1⟩ := hrel
    by_cases hlt : (i : Int) < n
    · go_wp2_with fail
      have hs : (swr d a b i).size = d.size := swr_size d a b i
      obtain ⟨dk, hdk⟩ : ∃ dk, dk = swr d a b i := ⟨_, rfl⟩
      rw [← hdk] at S1 hs
      have HDK := Lib.hid hdk
      clear hdk
      obtain ⟨x, hx⟩ : ∃ x, x = a + i := ⟨_, rfl⟩
      obtain ⟨y, hy⟩ : ∃ y, y = b + i := ⟨_, rfl⟩
      have ra : IntKind.i64.wrap ((a : Int) + i) = (x : Int) := by rw [IntKind.wrap_i64]; omega
      have rb : IntKind.i64.wrap ((b : Int) + i) = (y : Int) := by rw [IntKind.wrap_i64]; omega
      have ea : ((x : Int)).toNat = x := by omega
      have pa : (0 : Int) ≤ (x : Int) := by omega
      have ba : (x : Int) < (d.size : Int) := by omega
      have eb : ((y : Int)).toNat = y := by omega
      have pb : (0 : Int) ≤ (y : Int) := by omega
      have bb : (y : Int) < (d.size : Int) := by omega
      have S2 : Aside (SB enc k w0 blk off (swp dk x y) ((wr.drew.setCells blk (off + x * k) (enc dk[y]!)).setCells blk (off + y * k) (enc dk[x]!))) := S1.out.swap x y (by omega) (by omega)
      have l1 := S1.out.drew.ld P x (by omega)
      have l2 := S1.out.drew.ld P y (by omega)
      have s1 := S1.out.st1 P x (by omega) dk[y]!
      have s2 := S1.out.st2 P x y (by omega) (by omega) dk[y]! dk[x]!
      have n1 : (enc dk[x]!).length = k := HK.out _
      have n2 : (enc dk[y]!).length = k := HK.out _
      have HX := Lib.hid hx
      have HY := Lib.hid hy
      clear hx hy hs
      generalize enc dk[x]! = cI at S2 l1 s2 n1
      generalize enc dk[y]! = cJ at S2 l2 s1 s2 n2
      clear S1
      go_wp2_with fail
      go_big_region_o
      clear l1 l2 s1 s2
      generalize (wr.drew.setCells blk (off + x * k) cJ).setCells blk (off + y * k) cI = w2 at S2 ⊢
      go_wp2
      go_roundg (n - (i + 1))
      case measure => omega
      case rel =>
        refine ⟨i + 1, by go_num, by omega, Nat.le_refl _, ?_⟩
        show SB enc k w0 blk off (swp (swr d a b i) (a + i) (b + i)) _
        rw [← HDK.out, ← HX.out, ← HY.out]
        exact S2.out
    · go_wp2
      go_end0
      refine ⟨rfl, ?_⟩
      have : i = n := by omega
      subst this
      exact S1.out
end Go.Proofs.YtojocffjajcdmaaDoor.ST
/- slices.SortStableFunc: a row turned about a place. -/
namespace Go.Proofs.YtojocffjajcdmaaDoor.ST
open Go.Shelf Go.RowKit Go.Lib Go.Sort Go.Proofs
set_option linter.unusedVariables false
set_option linter.unusedSimpArgs false
variable {P : Program} {α : Type} [Inhabited α]

/-- What is known of the row on the way. -/
structure RotW (a m b i j : Nat) (d dk : Array α) : Prop where
  perm : PermIn a b d dk
  rot : ∀ h, Rot (m - i) m (m + j) dk h → Rot a m b d h

theorem RotW.start {a m b : Nat} {d : Array α} (h1 : a ≤ m) (h2 : m ≤ b) : RotW a m b (m - a) (b - m) d d :=
  ⟨permIn_refl _ _ _, fun h hr => by rwa [show m - (m - a) = a by omega, show m + (b - m) = b by omega] at hr⟩
theorem RotW.big {a m b i j : Nat} {d dk : Array α} (h : RotW a m b i j d dk) (ham : a ≤ m) (hj : j < i) (hi : i ≤ m - a) (hb : m + j ≤ b) (hs : b ≤ d.size) : RotW a m b (i - j) j d (swr dk (m - i) m j) :=
  ⟨permIn_trans _ _ _ _ _ h.perm (swr_perm dk (m - i) m j a b (by omega) (by omega) hb (by rw [h.perm.1]; exact hs)), fun g hg => h.rot g (rot_big hj (by omega) (by rw [h.perm.1]; omega) hg)⟩
theorem RotW.small {a m b i j : Nat} {d dk : Array α} (h : RotW a m b i j d dk) (ham : a ≤ m) (hj : i < j) (hi : i ≤ m - a) (hb : m + j ≤ b) (hs : b ≤ d.size) : RotW a m b i (j - i) d (swr dk (m - i) (m + j - i) i) :=
  ⟨permIn_trans _ _ _ _ _ h.perm (swr_perm dk (m - i) (m + j - i) i a b (by omega) (by omega) (by omega) (by rw [h.perm.1]; exact hs)), fun g hg => h.rot g (rot_small hj (by omega) (by rw [h.perm.1]; omega) hg)⟩
theorem RotW.last {a m b i : Nat} {d dk : Array α} (h : RotW a m b i i d dk) (ham : a ≤ m) (hi : i ≤ m - a) (hb : m + i ≤ b) (hs : b ≤ d.size) : PermIn a b d (swr dk (m - i) m i) ∧ Rot a m b d (swr dk (m - i) m i) :=
  ⟨permIn_trans _ _ _ _ _ h.perm (swr_perm dk (m - i) m i a b (by omega) (by omega) hb (by rw [h.perm.1]; exact hs)), h.rot _ (rot_last (by omega) (by rw [h.perm.1]; omega))⟩

set_option maxHeartbeats 4000000 in
set_option maxRecDepth 1000000 in
/-- slices.rotateCmpFunc. -/
theorem rot_calls (k : Nat) (L : Lay P k) (enc : α → List Value) (g : Nat) (la cb : Array Value) (blk off cap a m b : Nat) (d : Array α) (w0 w : World)
    (S : SB enc k w0 blk off d w) (ham : a < m) (hmb : m < b) (hb : b ≤ d.size) (hsz : d.size < 4611686018427387904) :
    Calls P 196 #[.slice (some ⟨blk, off, none⟩) d.size cap, .int .i64 a, .int .i64 m, .int .i64 b, .func (.func g) la cb] w fun e w' => e = .returned (.tuple #[]) ∧ ∃ d', PermIn a b d d' ∧ Rot a m b d d' ∧ SB enc k w0 blk off d' w' := by
  have mixed := L.mixed; have t0 := L.t0; have a0 := L.a0; have z0 := L.z0; have v0 := L.v0; have t3 := L.t3; have a3 := L.a3; have z3 := L.z3; have v3 := L.v3; have t4 := L.t4; have a4 := L.a4; have z4 := L.z4; have v4 := L.v4; have t22 := L.t22; have a22 := L.a22; have z22 := L.z22; have v22 := L.v22; have t153 := L.t153; have a153 := L.a153; have z153 := L.z153; have v153 := L.v153; have t200 := L.t200; have a200 := L.a200; have z200 := L.z200; have v200 := L.v200; have aE := L.aE; have zE := L.zE; have u22 := run_underlying L.t22; have u3 := run_underlying L.t3; have u4 := run_underlying L.t4; have u200 := run_underlying L.t200
  have FG := L.p196
  have e212 := L.e212
  have HL := Lib.hid L
  have S0 : Hid (SB enc k w0 blk off d w ∧ RotW a m b (m - a) (b - m) d d) := ⟨S, RotW.start (by omega) (by omega)⟩
  have HW := Lib.hid (fun (dk : Array α) (wr : World) (a' b' n : Nat) (hS : SB enc k w0 blk off dk wr) (hs : dk.size = d.size) (h1 : a' + n ≤ b') (h2 : b' + n ≤ d.size) =>
    (by have h := swr_calls (P := P) k L enc g la cb blk off cap a' b' n dk w0 wr hS h1 (by omega) (by omega); rwa [hs] at h :
      Calls P 212 #[.slice (some ⟨blk, off, none⟩) d.size cap, .int .i64 a', .int .i64 b', .int .i64 n, .func (.func g) la cb] wr fun e w' => e = .returned (.tuple #[]) ∧ SB enc k w0 blk off (swr dk a' b' n) w'))
  clear S L
  have i1 : IntKind.i64.wrap ((m : Int) - (a : Int)) = ((m - a : Nat) : Int) := by rw [IntKind.wrap_i64]; omega
  have i2 : IntKind.i64.wrap ((b : Int) - (m : Int)) = ((b - m : Nat) : Int) := by rw [IntKind.wrap_i64]; omega
  go_enter FG, Tryd.ntmps196
  go_wp2
  clear i1 i2
  go_loopg [10, 11] (m - a + (b - m)) (fun kx s8 s9 wr => ∃ (i j : Nat) (dk : Array α), s8 = .int .i64 i ∧ s9 = .int .i64 j ∧ 0 < i ∧ 0 < j ∧ i ≤ m - a ∧ m + j ≤ b ∧ i + j ≤ kx ∧ Hid (SB enc k w0 blk off dk wr ∧ RotW a m b i j d dk))
  case atStart => exact ⟨m - a, b - m, d, rfl, rfl, by omega, by omega, by omega, by omega, by omega, S0⟩
  case round =>
    clear S0
    obtain ⟨i, j, dk, rfl, rfl, hi0, hj0, him, hjb, hkx, S1⟩ := hrel
    have hs : Hid (dk.size = d.size) := S1.out.2.perm.1
    by_cases hne : i = j
    · subst hne
      have hq : ((i : Int) != (i : Int)) = false := by simp
      obtain ⟨x, hx⟩ : ∃ x, x = m - i := ⟨_, rfl⟩
      have r1 : IntKind.i64.wrap ((m : Int) - (i : Int)) = (x : Int) := by rw [IntKind.wrap_i64]; omega
      have hc := HW.out dk wr x m i S1.out.1 hs.out (by omega) (by omega)
      have HX := Lib.hid hx
      clear hx
      go_wp2_with (go_at_call 212; (with_reducible refine hc.mono ?_); rintro e w' ⟨rfl, hS'⟩)
      go_end0
      refine ⟨rfl, swr dk x m i, ?_⟩
      have hl := S1.out.2.last (by omega) (by omega) (by omega) hb
      rw [← HX.out] at hl
      exact ⟨hl.1, hl.2, hS'⟩
    · have hq : ((i : Int) != (j : Int)) = true := by simp; omega
      by_cases hij : j < i
      · have hgt : decide ((i : Int) > (j : Int)) = true := by simp; omega
        obtain ⟨x, hx⟩ : ∃ x, x = m - i := ⟨_, rfl⟩
        have r1 : IntKind.i64.wrap ((m : Int) - (i : Int)) = (x : Int) := by rw [IntKind.wrap_i64]; omega
        obtain ⟨y, hy⟩ : ∃ y, y = i - j := ⟨_, rfl⟩
        have r2 : IntKind.i64.wrap ((i : Int) - (j : Int)) = (y : Int) := by rw [IntKind.wrap_i64]; omega
        have hc := HW.out dk wr x m j S1.out.1 hs.out (by omega) (by omega)
        have HX := Lib.hid hx
        have HY := Lib.hid hy
        clear hx hy hne
        go_wp2_with (go_at_call 212; (with_reducible refine hc.mono ?_); rintro e w' ⟨rfl, hS'⟩)
        go_roundg (y + j)
        case measure => have := HY.out; omega
        case rel =>
          have hY := HY.out
          refine ⟨y, j, swr dk x m j, rfl, rfl, by omega, hj0, by omega, hjb, Nat.le_refl _, hS', ?_⟩
          have := S1.out.2.big (by omega) hij him hjb hb
          rw [HX.out, HY.out]
          exact this
      · have hgt : decide ((i : Int) > (j : Int)) = false := by simp; omega
        obtain ⟨x, hx⟩ : ∃ x, x = m - i := ⟨_, rfl⟩
        have r1 : IntKind.i64.wrap ((m : Int) - (i : Int)) = (x : Int) := by rw [IntKind.wrap_i64]; omega
        obtain ⟨y, hy⟩ : ∃ y, y = j - i := ⟨_, rfl⟩
        have r2 : IntKind.i64.wrap ((j : Int) - (i : Int)) = (y : Int) := by rw [IntKind.wrap_i64]; omega
        obtain ⟨z, hz⟩ : ∃ z, z = m + j := ⟨_, rfl⟩
        have r3 : IntKind.i64.wrap ((m : Int) + (j : Int)) = (z : Int) := by rw [IntKind.wrap_i64]; omega
        obtain ⟨u, hu⟩ : ∃ u, u = z - i := ⟨_, rfl⟩
        have r4 : IntKind.i64.wrap ((z : Int) - (i : Int)) = (u : Int) := by rw [IntKind.wrap_i64]; omega
        have hc := HW.out dk wr x u i S1.out.1 hs.out (by omega) (by omega)
        have HX := Lib.hid hx
        have HY := Lib.hid hy
        have HZ := Lib.hid (And.intro hz hu)
        have HLT := Lib.hid (show i < j by omega)
        clear hx hy hz hu hne
        go_wp2_with (go_at_call 212; (with_reducible refine hc.mono ?_); rintro e w' ⟨rfl, hS'⟩)
        go_roundg (i + y)
        case measure => have := HY.out; have := HLT.out; omega
        case rel =>
          have hY := HY.out
          have hlt' := HLT.out
          refine ⟨i, y, swr dk x u i, rfl, rfl, hi0, by omega, him, by omega, Nat.le_refl _, hS', ?_⟩
          have := S1.out.2.small (by omega) (by omega) him hjb hb
          rw [HX.out, HY.out, HZ.out.2, HZ.out.1]
          exact this
end Go.Proofs.YtojocffjajcdmaaDoor.ST
/- slices.SortStableFunc: the insertion sort of a block. -/
namespace Go.Proofs.YtojocffjajcdmaaDoor.ST
open Go.Shelf Go.RowKit Go.Lib Go.Sort Go.Proofs
set_option linter.unusedVariables false
set_option linter.unusedSimpArgs false
variable {P : Program} {α : Type} [Inhabited α]

set_option maxHeartbeats 4000000 in
set_option maxRecDepth 1000000 in
/-- slices.insertionSortCmpFunc: of rising tags the range is in order behind it. -/
theorem ins_calls (k : Nat) (L : Lay P k) (enc : α → List Value) (cf : α → α → Int) (tg : α → Nat) (hO : SWO (ltOf cf)) (g : Nat) (la cb : Array Value) (blk off cap a b : Nat) (d : Array α) (w0 w : World)
    (eg : ∀ args w, (callFunc g args).run P w = .ok (.enter g args) w) (hcmp : CmpB P g la cb enc k cf w0 blk off d.size)
    (S : SB enc k w0 blk off d w) (hA : Asc tg a b d) (hab : a ≤ b) (hb : b ≤ d.size) (hsz : d.size < 4611686018427387904) :
    Calls P 176 #[.slice (some ⟨blk, off, none⟩) d.size cap, .int .i64 a, .int .i64 b, .func (.func g) la cb] w fun e w' => e = .returned (.tuple #[]) ∧ ∃ d', Mrg cf tg a b d d' ∧ SB enc k w0 blk off d' w' := by
  have mixed := L.mixed; have t0 := L.t0; have a0 := L.a0; have z0 := L.z0; have v0 := L.v0; have t3 := L.t3; have a3 := L.a3; have z3 := L.z3; have v3 := L.v3; have t4 := L.t4; have a4 := L.a4; have z4 := L.z4; have v4 := L.v4; have t22 := L.t22; have a22 := L.a22; have z22 := L.z22; have v22 := L.v22; have t153 := L.t153; have a153 := L.a153; have z153 := L.z153; have v153 := L.v153; have t200 := L.t200; have a200 := L.a200; have z200 := L.z200; have v200 := L.v200; have aE := L.aE; have zE := L.zE; have u22 := run_underlying L.t22; have u3 := run_underlying L.t3; have u4 := run_underlying L.t4; have u200 := run_underlying L.t200
  have FG := L.p176
  have HC := Lib.hid hcmp
  have HA := Lib.hid hA
  have HO := Lib.hid hO
  have HK := Lib.hid S.hk
  have S0 : Hid (SB enc k w0 blk off d w ∧ InsO cf tg a b (a + 1) d d) := ⟨S, InsO.start hA⟩
  clear S L hcmp hA hO
  go_enter FG, Tryd.ntmps176
  go_wp2
  go_loopg [8] (b - a) (fun g1 vi wr => ∃ (i : Nat) (dk : Array α), vi = .int .i64 i ∧ a < i ∧ i ≤ b + 1 ∧ b + 1 - i ≤ g1 + 1 ∧ Hid (SB enc k w0 blk off dk wr ∧ InsO cf tg a b i d dk))
  case atStart => exact ⟨a + 1, d, by go_num, by omega, by omega, by omega, S0⟩
  case round =>
    clear S0
    obtain ⟨i, dk, rfl, hai, hib, hg1, S1⟩ := hrel
    by_cases hlt : i < b
    · have hltz : (i : Int) < (b : Int) := by omega
      go_wp2
      go_loopg [9] i (fun g2 vj wr2 => ∃ (j : Nat) (dj : Array α), vj = .int .i64 j ∧ a ≤ j ∧ j ≤ i ∧ j ≤ g2 ∧ Hid (SB enc k w0 blk off dj wr2 ∧ InsI cf tg a b j i d dj))
      case atStart => exact ⟨i, dk, rfl, by omega, Nat.le_refl _, Nat.le_refl _, S1.out.1, InsI.start S1.out.2 hlt⟩
      case round =>
        clear S1
        obtain ⟨j, dj, rfl, haj, hji, hg2, S2⟩ := hrel
        have hsj : Aside (dj.size = d.size) := S2.out.2.perm.1
        have OUT : Aside ((j ≤ a ∨ ltOf cf dj[j]! dj[j - 1]! = false) → InsO cf tg a b (i + 1) d dj) := fun hs => S2.out.2.stop HO.out HA.out haj hji hlt hb hs
        by_cases hja : a < j
        · have hjaz : (a : Int) < (j : Int) := by omega
          obtain ⟨jp, rfl⟩ : ∃ jp, j = jp + 1 := ⟨j - 1, by omega⟩
          have hjd : jp + 1 < dj.size := by rw [hsj.out]; omega
          have lj := fun n' os' => S2.out.1.ldR P (jp + 1) hjd n' os'
          have lp := fun n' os' => S2.out.1.ldR P jp (by omega) n' os'
          have hcg := fun n' os' => HC.out.reg S2.out.1 hsj.out dj[jp + 1]! dj[jp]! n' os'
          have n1 : (enc dj[jp + 1]!).length = k := HK.out _
          have n2 : (enc dj[jp]!).length = k := HK.out _
          obtain ⟨xj, hxj⟩ : ∃ x, dj[jp + 1]! = x := ⟨_, rfl⟩
          obtain ⟨xp, hxp⟩ : ∃ x, dj[jp]! = x := ⟨_, rfl⟩
          rw [hxj] at lj hcg n1
          rw [hxp] at lp hcg n2
          have hwp : IntKind.i64.wrap ((jp : Int) + 1 - 1) = (jp : Int) := by rw [IntKind.wrap_i64]; omega
          have hwp' : IntKind.i64.wrap (jp : Int) = (jp : Int) := by rw [IntKind.wrap_i64]; omega
          have jz : (jp : Int) + 1 < (d.size : Int) := by omega
          have jz1 : (jp : Int) < (d.size : Int) := by omega
          have hjaz' : (a : Int) < (jp : Int) + 1 := by omega
          have p0 : (0 : Int) ≤ (jp : Int) + 1 := by omega
          have e0 : ((jp : Int) + 1).toNat = jp + 1 := by omega
          have HXJ := Lib.hid hxj
          have HXP := Lib.hid hxp
          have HJD := Lib.hid hjd
          clear hxj hxp hjd
          by_cases hlv : cf xj xp < 0
          · go_wp2_with fail
            refine wp_region_quiet_below (by assumption) (by kernel_rfl) ?_
            repeat (quiet_step (first | (go_at_fn g; exact hcg _ _)))
            refine wpQuiet_nil ?_
            intro _ hw'
            obtain ⟨⟨nq, osq⟩, hw''⟩ := hw'
            subst hw''
            go_wp2_with fail
            have S3 := S2.out.1.below (below_regrown wr nq osq)
            clear lj lp hcg n1 n2
            generalize grow (redrawn wr nq) osq = wq2 at S3 ⊢
            have hjd := HJD.out
            have lj2 := S3.drew.ld P (jp + 1) hjd
            have lp2 := S3.drew.ld P jp (by omega)
            have s1 := S3.st1 P (jp + 1) hjd dj[jp]!
            have s2 := S3.st2 P (jp + 1) jp hjd (by omega) dj[jp]! dj[jp + 1]!
            have S4 : Aside (SB enc k w0 blk off (swp dj (jp + 1) jp) ((wq2.drew.setCells blk (off + (jp + 1) * k) (enc dj[jp]!)).setCells blk (off + jp * k) (enc dj[jp + 1]!))) := S3.swap (jp + 1) jp hjd (by omega)
            have n1 : (enc dj[jp + 1]!).length = k := HK.out _
            have n2 : (enc dj[jp]!).length = k := HK.out _
            generalize enc dj[jp + 1]! = cJ at S4 lj2 s2 n1
            generalize enc dj[jp]! = cP at S4 lp2 s1 s2 n2
            clear S3 hjd
            go_big_region_o
            clear lj2 lp2 s1 s2
            generalize (wq2.drew.setCells blk (off + (jp + 1) * k) cP).setCells blk (off + jp * k) cJ = w2 at S4 ⊢
            go_wp2
            go_roundg jp
            case measure => omega
            case rel =>
              refine ⟨jp, swp dj (jp + 1) jp, by first | rfl | go_num | (congr 1; omega), by omega, by omega, Nat.le_refl _, S4.out, ?_⟩
              exact S2.out.2.step (by omega) hji hlt hb (by rw [HXJ.out, HXP.out]; exact decide_eq_true hlv)
          · go_wp2_with fail
            refine wp_region_quiet_below (by assumption) (by kernel_rfl) ?_
            repeat (quiet_step (first | (go_at_fn g; exact hcg _ _)))
            refine wpQuiet_nil ?_
            intro _ hw'
            obtain ⟨⟨nq, osq⟩, hw''⟩ := hw'
            subst hw''
            go_wp2
            go_roundg (b - (i + 1))
            case measure => omega
            case rel => exact ⟨i + 1, dj, by go_num, by omega, by omega, by omega, S2.out.1.below (below_regrown wr nq osq), OUT.out (Or.inr (by simp only [Nat.add_sub_cancel]; rw [HXJ.out, HXP.out]; exact decide_eq_false (by omega)))⟩
        · have hjaz : decide ((j : Int) > (a : Int)) = false := decide_eq_false (by omega)
          have hjaz' : ¬ (a : Int) < (j : Int) := by omega
          go_wp2_with fail
          go_big_region_o
          all_goals go_wp2
          go_roundg (b - (i + 1))
          case measure => omega
          case rel => exact ⟨i + 1, dj, by go_num, by omega, by omega, by omega, S2.out.1.drew, OUT.out (Or.inl (by omega))⟩
    · have hltz : ¬ (i : Int) < (b : Int) := by omega
      go_wp2
      go_end0
      exact ⟨rfl, dk, ⟨S1.out.2.perm, S1.out.2.st.sub (Nat.le_refl _) (by omega)⟩, S1.out.1⟩
end Go.Proofs.YtojocffjajcdmaaDoor.ST
/- slices.SortStableFunc: one element merged into a row. -/
namespace Go.Proofs.YtojocffjajcdmaaDoor.ST
open Go.Shelf Go.RowKit Go.Lib Go.Sort Go.Proofs
set_option linter.unusedVariables false
set_option linter.unusedSimpArgs false
variable {P : Program} {α : Type} [Inhabited α]

set_option maxHeartbeats 4000000 in
set_option maxRecDepth 1000000 in
/-- slices.symMergeCmpFunc: one element ahead of a row. -/
theorem sym_one (k : Nat) (L : Lay P k) (enc : α → List Value) (cf : α → α → Int) (tg : α → Nat) (hO : SWO (ltOf cf)) (g : Nat) (la cb : Array Value) (blk off cap a b : Nat) (d : Array α) (w0 w : World)
    (eg : ∀ args w, (callFunc g args).run P w = .ok (.enter g args) w) (hcmp : CmpB P g la cb enc k cf w0 blk off d.size)
    (S : SB enc k w0 blk off d w) (T : Two cf tg a (a + 1) b d) (hsz : d.size < 4611686018427387904) :
    Calls P 177 #[.slice (some ⟨blk, off, none⟩) d.size cap, .int .i64 a, .int .i64 ((a : Int) + 1), .int .i64 b, .func (.func g) la cb] w fun e w' => e = .returned (.tuple #[]) ∧ ∃ d', Mrg cf tg a b d d' ∧ SB enc k w0 blk off d' w' := by
  have mixed := L.mixed; have t0 := L.t0; have a0 := L.a0; have z0 := L.z0; have v0 := L.v0; have t3 := L.t3; have a3 := L.a3; have z3 := L.z3; have v3 := L.v3; have t4 := L.t4; have a4 := L.a4; have z4 := L.z4; have v4 := L.v4; have t22 := L.t22; have a22 := L.a22; have z22 := L.z22; have v22 := L.v22; have t153 := L.t153; have a153 := L.a153; have z153 := L.z153; have v153 := L.v153; have t200 := L.t200; have a200 := L.a200; have z200 := L.z200; have v200 := L.v200; have aE := L.aE; have zE := L.zE; have u22 := run_underlying L.t22; have u3 := run_underlying L.t3; have u4 := run_underlying L.t4; have u200 := run_underlying L.t200
  have FG := L.p177
  have HC := Lib.hid hcmp
  have HO := Lib.hid hO
  have HK := Lib.hid S.hk
  have HT := Lib.hid T
  have hmb := T.mb
  have hbs := T.bs
  have S0 : Hid (SB enc k w0 blk off d w ∧ BsL cf tg a b (a + 1) b d) := ⟨S, BsL.start T⟩
  clear S L hcmp hO T
  have h1 : IntKind.i64.wrap ((a : Int) + 1 - (a : Int)) = 1 := by rw [IntKind.wrap_i64]; omega
  have had : a < d.size := by omega
  go_enter FG, Tryd.ntmps177
  go_wp2
  clear h1
  go_loopg [10, 11] (b - a) (fun kx s8 s9 wr => ∃ (i j : Nat), s8 = .int .i64 i ∧ s9 = .int .i64 j ∧ a + 1 ≤ i ∧ i ≤ j ∧ j ≤ b ∧ j - i ≤ kx ∧ Hid (SB enc k w0 blk off d wr ∧ BsL cf tg a b i j d))
  case atStart => exact ⟨a + 1, b, by go_num, rfl, Nat.le_refl _, hmb, Nat.le_refl _, by omega, S0⟩
  case round =>
    clear S0
    obtain ⟨i, j, rfl, rfl, hai, hij, hjb, hkx, S1⟩ := hrel
    by_cases hlt : i < j
    · have hltz : (i : Int) < (j : Int) := by omega
      obtain ⟨h, hh⟩ : ∃ h, h = (i + j) / 2 := ⟨_, rfl⟩
      have r0 : IntKind.i64.wrap ((i : Int) + (j : Int)) = (i : Int) + (j : Int) := by rw [IntKind.wrap_i64]; omega
      have he : ((i : Int) + (j : Int)) / 2 = (h : Int) := by omega
      have hih : i ≤ h := by omega
      have hhj : h < j := by omega
      have HH := Lib.hid hh
      clear hh
      have lj := fun n' os' => S1.out.1.ldR P h (by omega) n' os'
      have lp := fun n' os' => S1.out.1.ldR P a (by omega) n' os'
      have hcg := fun n' os' => HC.out.reg S1.out.1 rfl d[h]! d[a]! n' os'
      have n1 : (enc d[h]!).length = k := HK.out _
      have n2 : (enc d[a]!).length = k := HK.out _
      obtain ⟨xj, hxj⟩ : ∃ x, d[h]! = x := ⟨_, rfl⟩
      obtain ⟨xp, hxp⟩ : ∃ x, d[a]! = x := ⟨_, rfl⟩
      rw [hxj] at lj hcg n1
      rw [hxp] at lp hcg n2
      have ph : (h : Int) < (d.size : Int) := by omega
      have pa : (a : Int) < (d.size : Int) := by omega
      have HXJ := Lib.hid hxj
      have HXP := Lib.hid hxp
      clear hxj hxp
      by_cases hlv : cf xj xp < 0
      · go_wp2_with fail
        refine wp_region_quiet_below (by assumption) (by kernel_rfl) ?_
        repeat (quiet_step (first | (go_at_fn g; exact hcg _ _)))
        refine wpQuiet_nil ?_
        intro _ hw'
        obtain ⟨⟨nq, osq⟩, hw''⟩ := hw'
        subst hw''
        go_wp2
        go_roundg (j - (h + 1))
        case measure => omega
        case rel => exact ⟨h + 1, j, by go_num, rfl, by omega, by omega, hjb, Nat.le_refl _, S1.out.1.below (below_regrown wr nq osq), S1.out.2.up HO.out HT.out hih hhj (by rw [HXJ.out, HXP.out]; exact decide_eq_true hlv)⟩
      · go_wp2_with fail
        refine wp_region_quiet_below (by assumption) (by kernel_rfl) ?_
        repeat (quiet_step (first | (go_at_fn g; exact hcg _ _)))
        refine wpQuiet_nil ?_
        intro _ hw'
        obtain ⟨⟨nq, osq⟩, hw''⟩ := hw'
        subst hw''
        go_wp2
        go_roundg (h - i)
        case measure => omega
        case rel => exact ⟨i, h, rfl, by go_num, hai, hih, by omega, Nat.le_refl _, S1.out.1.below (below_regrown wr nq osq), S1.out.2.down HO.out HT.out hih hhj (by rw [HXJ.out, HXP.out]; exact decide_eq_false (by omega))⟩
    · obtain rfl : i = j := by omega
      have hltz : ¬ (i : Int) < (i : Int) := by omega
      obtain ⟨u, hu⟩ : ∃ u, i = u + 1 := ⟨i - 1, by omega⟩
      have r1 : IntKind.i64.wrap ((i : Int) - 1) = (u : Int) := by rw [IntKind.wrap_i64]; omega
      have HB := Lib.hid S1.out.2
      have HU := Lib.hid hu
      clear hu
      go_wp2
      go_loopg [13] (b - a) (fun kx s8 wr => ∃ (x : Nat) (dk : Array α), s8 = .int .i64 x ∧ a ≤ x ∧ x ≤ u ∧ u - x ≤ kx ∧ Hid (SB enc k w0 blk off dk wr ∧ PermIn a b d dk ∧ ShL a x d dk))
      case atStart => exact ⟨a, d, rfl, Nat.le_refl _, by have := HU.out; omega, by have := HU.out; omega, S1.out.1, permIn_refl _ _ _, ShL.start _ _⟩
      case round =>
        clear S1
        have hu := HU.out
        obtain ⟨x, dk, rfl, hax, hxu, hkx2, S2⟩ := hrel
        by_cases hxl : x < u
        · have hxz : (x : Int) < (u : Int) := by omega
          have hs : dk.size = d.size := S2.out.2.1.1
          obtain ⟨y, hy⟩ : ∃ y, y = x + 1 := ⟨_, rfl⟩
          have r2 : IntKind.i64.wrap ((x : Int) + 1) = (y : Int) := by rw [IntKind.wrap_i64]; omega
          have ey : ((y : Int)).toNat = y := by omega
          have p0 : (0 : Int) ≤ (y : Int) := by omega
          have p1 : (y : Int) < (d.size : Int) := by omega
          have p2 : (x : Int) < (d.size : Int) := by omega
          have S3 : Aside (SB enc k w0 blk off (swp dk x y) ((wr.drew.setCells blk (off + x * k) (enc dk[y]!)).setCells blk (off + y * k) (enc dk[x]!))) := S2.out.1.swap x y (by omega) (by omega)
          have l1 := S2.out.1.drew.ld P x (by omega)
          have l2 := S2.out.1.drew.ld P y (by omega)
          have s1 := S2.out.1.st1 P x (by omega) dk[y]!
          have s2 := S2.out.1.st2 P x y (by omega) (by omega) dk[y]! dk[x]!
          have n1 : (enc dk[x]!).length = k := HK.out _
          have n2 : (enc dk[y]!).length = k := HK.out _
          have HS := Lib.hid hs
          have HY := Lib.hid hy
          clear hs hy hu
          generalize enc dk[x]! = cI at S3 l1 s2 n1
          generalize enc dk[y]! = cJ at S3 l2 s1 s2 n2
          go_wp2_with fail
          go_big_region_o
          clear l1 l2 s1 s2
          generalize (wr.drew.setCells blk (off + x * k) cJ).setCells blk (off + y * k) cI = w2 at S3 ⊢
          go_wp2
          go_roundg (u - (x + 1))
          case measure => omega
          case rel =>
            have hs := HS.out
            have hy := HY.out
            have hu := HU.out
            subst hy
            exact ⟨x + 1, swp dk x (x + 1), by go_num, by omega, by omega, Nat.le_refl _, S3.out, permIn_trans _ _ _ _ _ S2.out.2.1 (swp_permIn dk a b x (x + 1) hax (by omega) (by omega) (by omega) (by omega)), S2.out.2.2.step hax (by omega)⟩
        · have hxz : ¬ (x : Int) < (u : Int) := by omega
          obtain rfl : x = u := by omega
          clear hu
          go_wp2
          (try simp only [Exit.inBlock, Exit.then]); refine bodyPost_ret (results_none rfl _ _ _) rfl ?_
          refine ⟨rfl, dk, ShL.done HO.out HT.out HB.out S2.out.2.1 ?_, S2.out.1⟩
          have := S2.out.2.2
          rwa [show i - 1 = x by have := HU.out; omega]
end Go.Proofs.YtojocffjajcdmaaDoor.ST
/- slices.SortStableFunc: one element behind a row merged into it. -/
namespace Go.Proofs.YtojocffjajcdmaaDoor.ST
open Go.Shelf Go.RowKit Go.Lib Go.Sort Go.Proofs
set_option linter.unusedVariables false
set_option linter.unusedSimpArgs false
variable {P : Program} {α : Type} [Inhabited α]

set_option maxHeartbeats 4000000 in
set_option maxRecDepth 1000000 in
/-- slices.symMergeCmpFunc: one element behind a row. -/
theorem sym_last (k : Nat) (L : Lay P k) (enc : α → List Value) (cf : α → α → Int) (tg : α → Nat) (hO : SWO (ltOf cf)) (g : Nat) (la cb : Array Value) (blk off cap a m : Nat) (d : Array α) (w0 w : World)
    (eg : ∀ args w, (callFunc g args).run P w = .ok (.enter g args) w) (hcmp : CmpB P g la cb enc k cf w0 blk off d.size)
    (S : SB enc k w0 blk off d w) (T : Two cf tg a m (m + 1) d) (hma : a + 1 < m) (hsz : d.size < 4611686018427387904) :
    Calls P 177 #[.slice (some ⟨blk, off, none⟩) d.size cap, .int .i64 a, .int .i64 m, .int .i64 ((m : Int) + 1), .func (.func g) la cb] w fun e w' => e = .returned (.tuple #[]) ∧ ∃ d', Mrg cf tg a (m + 1) d d' ∧ SB enc k w0 blk off d' w' := by
  have mixed := L.mixed; have t0 := L.t0; have a0 := L.a0; have z0 := L.z0; have v0 := L.v0; have t3 := L.t3; have a3 := L.a3; have z3 := L.z3; have v3 := L.v3; have t4 := L.t4; have a4 := L.a4; have z4 := L.z4; have v4 := L.v4; have t22 := L.t22; have a22 := L.a22; have z22 := L.z22; have v22 := L.v22; have t153 := L.t153; have a153 := L.a153; have z153 := L.z153; have v153 := L.v153; have t200 := L.t200; have a200 := L.a200; have z200 := L.z200; have v200 := L.v200; have aE := L.aE; have zE := L.zE; have u22 := run_underlying L.t22; have u3 := run_underlying L.t3; have u4 := run_underlying L.t4; have u200 := run_underlying L.t200
  have FG := L.p177
  have HC := Lib.hid hcmp
  have HO := Lib.hid hO
  have HK := Lib.hid S.hk
  have HT := Lib.hid T
  have hmb := T.mb
  have hbs := T.bs
  have S0 : Hid (SB enc k w0 blk off d w ∧ BsR cf tg a m a m d) := ⟨S, BsR.start T⟩
  clear S L hcmp hO T
  obtain ⟨q, hq⟩ : ∃ q, q = m - a := ⟨_, rfl⟩
  have h0 : IntKind.i64.wrap ((m : Int) - (a : Int)) = (q : Int) := by rw [IntKind.wrap_i64]; omega
  have h00 : ((q : Int) == 1) = false := by simp; omega
  have h1 : IntKind.i64.wrap ((m : Int) + 1 - (m : Int)) = 1 := by rw [IntKind.wrap_i64]; omega
  have had : m < d.size := by omega
  clear hq
  go_enter FG, Tryd.ntmps177
  go_wp2
  clear h1 h0 h00
  go_loopg [14, 15] (m - a) (fun kx s8 s9 wr => ∃ (i j : Nat), s8 = .int .i64 i ∧ s9 = .int .i64 j ∧ a ≤ i ∧ i ≤ j ∧ j ≤ m ∧ j - i ≤ kx ∧ Hid (SB enc k w0 blk off d wr ∧ BsR cf tg a m i j d))
  case atStart => exact ⟨a, m, rfl, rfl, Nat.le_refl _, by omega, Nat.le_refl _, by omega, S0⟩
  case round =>
    clear S0
    obtain ⟨i, j, rfl, rfl, hai, hij, hjb, hkx, S1⟩ := hrel
    by_cases hlt : i < j
    · have hltz : (i : Int) < (j : Int) := by omega
      obtain ⟨h, hh⟩ : ∃ h, h = (i + j) / 2 := ⟨_, rfl⟩
      have r0 : IntKind.i64.wrap ((i : Int) + (j : Int)) = (i : Int) + (j : Int) := by rw [IntKind.wrap_i64]; omega
      have he : ((i : Int) + (j : Int)) / 2 = (h : Int) := by omega
      have hih : i ≤ h := by omega
      have hhj : h < j := by omega
      have HH := Lib.hid hh
      clear hh
      have lj := fun n' os' => S1.out.1.ldR P h (by omega) n' os'
      have lp := fun n' os' => S1.out.1.ldR P m (by omega) n' os'
      have hcg := fun n' os' => HC.out.reg S1.out.1 rfl d[m]! d[h]! n' os'
      have n1 : (enc d[h]!).length = k := HK.out _
      have n2 : (enc d[m]!).length = k := HK.out _
      obtain ⟨xj, hxj⟩ : ∃ x, d[h]! = x := ⟨_, rfl⟩
      obtain ⟨xp, hxp⟩ : ∃ x, d[m]! = x := ⟨_, rfl⟩
      rw [hxj] at lj hcg n1
      rw [hxp] at lp hcg n2
      have ph : (h : Int) < (d.size : Int) := by omega
      have pa : (m : Int) < (d.size : Int) := by omega
      have HXJ := Lib.hid hxj
      have HXP := Lib.hid hxp
      clear hxj hxp
      by_cases hlv : cf xp xj < 0
      case neg =>
        have hdec : decide (cf xp xj < 0) = false := decide_eq_false hlv
        have HLV := Lib.hid hlv
        clear hlv
        go_wp2_with fail
        refine wp_region_quiet_below (by assumption) (by kernel_rfl) ?_
        repeat (quiet_step (first | (go_at_fn g; exact hcg _ _)))
        refine wpQuiet_nil ?_
        intro _ hw'
        obtain ⟨⟨nq, osq⟩, hw''⟩ := hw'
        subst hw''
        go_wp2
        go_roundg (j - (h + 1))
        case measure => omega
        case rel => exact ⟨h + 1, j, by go_num, rfl, by omega, by omega, hjb, Nat.le_refl _, S1.out.1.below (below_regrown wr nq osq), S1.out.2.up HO.out HT.out hih hhj (by rw [HXJ.out, HXP.out]; exact decide_eq_false (by have := HLV.out; omega))⟩
      case pos =>
        have hdec : decide (cf xp xj < 0) = true := decide_eq_true hlv
        have HLV := Lib.hid hlv
        clear hlv
        go_wp2_with fail
        refine wp_region_quiet_below (by assumption) (by kernel_rfl) ?_
        repeat (quiet_step (first | (go_at_fn g; exact hcg _ _)))
        refine wpQuiet_nil ?_
        intro _ hw'
        obtain ⟨⟨nq, osq⟩, hw''⟩ := hw'
        subst hw''
        go_wp2
        go_roundg (h - i)
        case measure => omega
        case rel => exact ⟨i, h, rfl, by go_num, hai, hih, by omega, Nat.le_refl _, S1.out.1.below (below_regrown wr nq osq), S1.out.2.down HO.out HT.out hih hhj (by rw [HXJ.out, HXP.out]; exact decide_eq_true HLV.out)⟩
    · obtain rfl : i = j := by omega
      have hltz : ¬ (i : Int) < (i : Int) := by omega
      have HB := Lib.hid S1.out.2
      have him : i ≤ m := hjb
      go_wp2
      go_loopg [17] (m - i) (fun kx s8 wr => ∃ (x : Nat) (dk : Array α), s8 = .int .i64 x ∧ i ≤ x ∧ x ≤ m ∧ x - i ≤ kx ∧ Hid (SB enc k w0 blk off dk wr ∧ PermIn a (m + 1) d dk ∧ ShR m x d dk))
      case atStart => exact ⟨m, d, rfl, him, Nat.le_refl _, Nat.le_refl _, S1.out.1, permIn_refl _ _ _, ShR.start _ _⟩
      case round =>
        clear S1
        obtain ⟨x, dk, rfl, hax, hxu, hkx2, S2⟩ := hrel
        by_cases hxl : i < x
        · have hxz : (i : Int) < (x : Int) := by omega
          have hs : dk.size = d.size := S2.out.2.1.1
          obtain ⟨y, hy⟩ : ∃ y, x = y + 1 := ⟨x - 1, by omega⟩
          have r2 : IntKind.i64.wrap ((x : Int) - 1) = (y : Int) := by rw [IntKind.wrap_i64]; omega
          have ey : ((y : Int)).toNat = y := by omega
          have p0 : (0 : Int) ≤ (y : Int) := by omega
          have p1 : (y : Int) < (d.size : Int) := by omega
          have p2 : (x : Int) < (d.size : Int) := by omega
          have S3 : Aside (SB enc k w0 blk off (swp dk x y) ((wr.drew.setCells blk (off + x * k) (enc dk[y]!)).setCells blk (off + y * k) (enc dk[x]!))) := S2.out.1.swap x y (by omega) (by omega)
          have l1 := S2.out.1.drew.ld P x (by omega)
          have l2 := S2.out.1.drew.ld P y (by omega)
          have s1 := S2.out.1.st1 P x (by omega) dk[y]!
          have s2 := S2.out.1.st2 P x y (by omega) (by omega) dk[y]! dk[x]!
          have n1 : (enc dk[x]!).length = k := HK.out _
          have n2 : (enc dk[y]!).length = k := HK.out _
          have HS := Lib.hid hs
          have HY := Lib.hid hy
          clear hs hy
          generalize enc dk[x]! = cI at S3 l1 s2 n1
          generalize enc dk[y]! = cJ at S3 l2 s1 s2 n2
          go_wp2_with fail
          go_big_region_o
          clear l1 l2 s1 s2
          generalize (wr.drew.setCells blk (off + x * k) cJ).setCells blk (off + y * k) cI = w2 at S3 ⊢
          go_wp2
          go_roundg (y - i)
          case measure => have hy := HY.out; omega
          case rel =>
            have hs := HS.out
            have hy := HY.out
            subst hy
            exact ⟨y, swp dk (y + 1) y, by go_num, by omega, by omega, Nat.le_refl _, S3.out, permIn_trans _ _ _ _ _ S2.out.2.1 (swp_permIn dk a (m + 1) (y + 1) y (by omega) (by omega) (by omega) (by omega) (by omega)), S2.out.2.2.step (by omega) (by omega)⟩
        · have hxz : ¬ (i : Int) < (x : Int) := by omega
          obtain rfl : i = x := by omega
          go_wp2
          (try simp only [Exit.inBlock, Exit.then]); refine bodyPost_ret (results_none rfl _ _ _) rfl ?_
          exact ⟨rfl, dk, ShR.done HO.out HT.out HB.out S2.out.2.1 S2.out.2.2, S2.out.1⟩
end Go.Proofs.YtojocffjajcdmaaDoor.ST
/- slices.SortStableFunc: two rows merged in place. -/
namespace Go.Proofs.YtojocffjajcdmaaDoor.ST
open Go.Shelf Go.RowKit Go.Lib Go.Sort Go.Proofs
set_option linter.unusedVariables false
set_option linter.unusedSimpArgs false
variable {P : Program} {α : Type}

theorem edge_of {i m e : Nat} (h : ¬ (i < m ∧ m < e)) (h1 : i ≤ m) (h2 : m ≤ e) : i = m ∨ m = e := by omega
theorem zlt {a b : Nat} (h : a < b) : (a : Int) < (b : Int) := by omega
theorem znlt {a b : Nat} (h : ¬ a < b) : ¬ (a : Int) < (b : Int) := by omega
def rightC : Code → Code
  | .seq _ b => b
  | c => c
def leftC : Code → Code
  | .seq a _ => a
  | c => c
/-- What stands behind the search: the end's place; the turning; the left pair; the right pair. -/
noncomputable def symTail : Code := rightC (rightC (rightC (rightC (rightC (rightC (rightC (rightC (Tryd.f177.body.getD .skip))))))))
noncomputable def symT0 : Code := leftC symTail
noncomputable def symT1 : Code := leftC (rightC symTail)
noncomputable def symT2 : Code := leftC (rightC (rightC symTail))
noncomputable def symT3 : Code := rightC (rightC (rightC symTail))
theorem symTail_eq : symTail = .seq symT0 (.seq symT1 (.seq symT2 symT3)) := rfl

set_option maxHeartbeats 4000000 in
set_option maxRecDepth 1000000 in
theorem sym_p0 (k : Nat) (L : Lay P k) (enc : α → List Value) (cf : α → α → Int) (tg : α → Nat) (g : Nat) (la cb : Array Value) (blk off cap n0 a m b mid n i e : Nat)
    (r1 : IntKind.i64.wrap ((n : Int) - (i : Int)) = (e : Int)) (Q : Exit → Act → World → Prop) (wr : World)
    (u24 u5 u6 u7 u8 u9 u10 u11 u12 u13 u14 u15 u16 u17 u21 u22 u23 u25 u26 u27 u28 u29 u30 u31 u32 u33 u34 u35 u36 u37 u38 u39 u40 u41 u42 u43 u44 u45 u46 u47 u48 u49 u50 u51 u52 u53 u54 u55 u56 u57 u58 u59 u60 u61 u62 u63 u64 u65 u66 u67 u68 u69 u70 u71 u72 u73 u74 u75 u76 u77 u78 u79 u80 u81 u82 u83 u84 u85 u86 u87 u88 u89 u90 u91 u92 u93 u94 u95 u96 u97 u98 u99 u100 u101 u102 u103 u104 u105 u106 u107 u108 u109 u110 u111 u112 u113 u114 u115 u116 u117 u118 u119 u120 u121 u122 u123 u124 u125 u126 u127 u128 u129 u130 u131 u132 u133 u134 u135 u136 u137 u138 u139 u140 u141 u142 u143 u144 u145 u146 u147 u148 u149 u150 u151 u152 u153 u154 u155 u156 u157 u158 u159 u160 u161 u162 u163 u164 u165 u166 u167 u168 u169 u170 u171 u172 u173 u174 u175 u176 u177 u178 u179 u180 u181 u182 u183 u184 u185 u186 u187 u188 u189 u190 u191 u192 u193 u194 u195 u196 u197 u198 u199 u200 u201 u202 u203 u204 u205 u206 u207 u208 u209 u210 u211 u212 u213 u214 u215 u216 u217 u218 u219 : Value)
    (hQ : ∀ v175 v176 v177 : Value, Q .normal ⟨#[.slice (some ⟨blk, off, none⟩) n0 cap, .int .i64 a, .int .i64 m, .int .i64 b, .func (.func g) la cb, u5, u6, u7, u8, u9, u10, u11, u12, u13, u14, u15, u16, u17, .int .i64 mid, .int .i64 n, .int .i64 i, u21, u22, u23, .int .i64 e, u25, u26, u27, u28, u29, u30, u31, u32, u33, u34, u35, u36, u37, u38, u39, u40, u41, u42, u43, u44, u45, u46, u47, u48, u49, u50, u51, u52, u53, u54, u55, u56, u57, u58, u59, u60, u61, u62, u63, u64, u65, u66, u67, u68, u69, u70, u71, u72, u73, u74, u75, u76, u77, u78, u79, u80, u81, u82, u83, u84, u85, u86, u87, u88, u89, u90, u91, u92, u93, u94, u95, u96, u97, u98, u99, u100, u101, u102, u103, u104, u105, u106, u107, u108, u109, u110, u111, u112, u113, u114, u115, u116, u117, u118, u119, u120, u121, u122, u123, u124, u125, u126, u127, u128, u129, u130, u131, u132, u133, u134, u135, u136, u137, u138, u139, u140, u141, u142, u143, u144, u145, u146, u147, u148, u149, u150, u151, u152, u153, u154, u155, u156, u157, u158, u159, u160, u161, u162, u163, u164, u165, u166, u167, u168, u169, u170, u171, u172, u173, u174, v175, v176, v177, u178, u179, u180, u181, u182, u183, u184, u185, u186, u187, u188, u189, u190, u191, u192, u193, u194, u195, u196, u197, u198, u199, u200, u201, u202, u203, u204, u205, u206, u207, u208, u209, u210, u211, u212, u213, u214, u215, u216, u217, u218, u219], []⟩ wr) :
    Code.wp P symT0 Q ⟨#[.slice (some ⟨blk, off, none⟩) n0 cap, .int .i64 a, .int .i64 m, .int .i64 b, .func (.func g) la cb, u5, u6, u7, u8, u9, u10, u11, u12, u13, u14, u15, u16, u17, .int .i64 mid, .int .i64 n, .int .i64 i, u21, u22, u23, u24, u25, u26, u27, u28, u29, u30, u31, u32, u33, u34, u35, u36, u37, u38, u39, u40, u41, u42, u43, u44, u45, u46, u47, u48, u49, u50, u51, u52, u53, u54, u55, u56, u57, u58, u59, u60, u61, u62, u63, u64, u65, u66, u67, u68, u69, u70, u71, u72, u73, u74, u75, u76, u77, u78, u79, u80, u81, u82, u83, u84, u85, u86, u87, u88, u89, u90, u91, u92, u93, u94, u95, u96, u97, u98, u99, u100, u101, u102, u103, u104, u105, u106, u107, u108, u109, u110, u111, u112, u113, u114, u115, u116, u117, u118, u119, u120, u121, u122, u123, u124, u125, u126, u127, u128, u129, u130, u131, u132, u133, u134, u135, u136, u137, u138, u139, u140, u141, u142, u143, u144, u145, u146, u147, u148, u149, u150, u151, u152, u153, u154, u155, u156, u157, u158, u159, u160, u161, u162, u163, u164, u165, u166, u167, u168, u169, u170, u171, u172, u173, u174, u175, u176, u177, u178, u179, u180, u181, u182, u183, u184, u185, u186, u187, u188, u189, u190, u191, u192, u193, u194, u195, u196, u197, u198, u199, u200, u201, u202, u203, u204, u205, u206, u207, u208, u209, u210, u211, u212, u213, u214, u215, u216, u217, u218, u219], []⟩ wr := by
  have mixed := L.mixed; have t0 := L.t0; have a0 := L.a0; have z0 := L.z0; have v0 := L.v0; have t3 := L.t3; have a3 := L.a3; have z3 := L.z3; have v3 := L.v3; have t4 := L.t4; have a4 := L.a4; have z4 := L.z4; have v4 := L.v4; have t22 := L.t22; have a22 := L.a22; have z22 := L.z22; have v22 := L.v22; have t153 := L.t153; have a153 := L.a153; have z153 := L.z153; have v153 := L.v153; have t200 := L.t200; have a200 := L.a200; have z200 := L.z200; have v200 := L.v200; have aE := L.aE; have zE := L.zE; have u22 := run_underlying L.t22; have u3 := run_underlying L.t3; have u4 := run_underlying L.t4; have u200 := run_underlying L.t200
  clear L
  conv => arg 2; whnf
  go_wp2_with fail
  exact hQ _ _ _

set_option maxHeartbeats 4000000 in
set_option maxRecDepth 1000000 in
theorem sym_p1 (k : Nat) (L : Lay P k) (enc : α → List Value) (cf : α → α → Int) (tg : α → Nat) (g : Nat) (la cb : Array Value) (blk off cap n0 a m b mid n i e : Nat) (w0 wr : World) (d : Array α)
    (R : World → Prop) (hcall : i < m → m < e → Calls P 196 #[.slice (some ⟨blk, off, none⟩) n0 cap, .int .i64 i, .int .i64 m, .int .i64 e, .func (.func g) la cb] wr fun e w' => e = .returned (.tuple #[]) ∧ R w') (hstay : ¬ (i < m ∧ m < e) → R wr) (Q : Exit → Act → World → Prop)
    (u5 u6 u7 u8 u9 u10 u11 u12 u13 u14 u15 u16 u17 u21 u22 u23 u25 u26 u27 u28 u29 u30 u31 u32 u33 u34 u35 u36 u37 u38 u39 u40 u41 u42 u43 u44 u45 u46 u47 u48 u49 u50 u51 u52 u53 u54 u55 u56 u57 u58 u59 u60 u61 u62 u63 u64 u65 u66 u67 u68 u69 u70 u71 u72 u73 u74 u75 u76 u77 u78 u79 u80 u81 u82 u83 u84 u85 u86 u87 u88 u89 u90 u91 u92 u93 u94 u95 u96 u97 u98 u99 u100 u101 u102 u103 u104 u105 u106 u107 u108 u109 u110 u111 u112 u113 u114 u115 u116 u117 u118 u119 u120 u121 u122 u123 u124 u125 u126 u127 u128 u129 u130 u131 u132 u133 u134 u135 u136 u137 u138 u139 u140 u141 u142 u143 u144 u145 u146 u147 u148 u149 u150 u151 u152 u153 u154 u155 u156 u157 u158 u159 u160 u161 u162 u163 u164 u165 u166 u167 u168 u169 u170 u171 u172 u173 u174 u175 u176 u177 u178 u179 u180 u181 u182 u183 u184 u185 u186 u187 u188 u189 u190 u191 u192 u193 u194 u195 u196 u197 u198 u199 u200 u201 u202 u203 u204 u205 u206 u207 u208 u209 u210 u211 u212 u213 u214 u215 u216 u217 u218 u219 : Value)
    (hQ : ∀ (v178 v179 v180 v181 v182 v183 v184 v185 v186 v187 v188 v189 v190 v191 : Value) (w' : World), R w' → Q .normal ⟨#[.slice (some ⟨blk, off, none⟩) n0 cap, .int .i64 a, .int .i64 m, .int .i64 b, .func (.func g) la cb, u5, u6, u7, u8, u9, u10, u11, u12, u13, u14, u15, u16, u17, .int .i64 mid, .int .i64 n, .int .i64 i, u21, u22, u23, .int .i64 e, u25, u26, u27, u28, u29, u30, u31, u32, u33, u34, u35, u36, u37, u38, u39, u40, u41, u42, u43, u44, u45, u46, u47, u48, u49, u50, u51, u52, u53, u54, u55, u56, u57, u58, u59, u60, u61, u62, u63, u64, u65, u66, u67, u68, u69, u70, u71, u72, u73, u74, u75, u76, u77, u78, u79, u80, u81, u82, u83, u84, u85, u86, u87, u88, u89, u90, u91, u92, u93, u94, u95, u96, u97, u98, u99, u100, u101, u102, u103, u104, u105, u106, u107, u108, u109, u110, u111, u112, u113, u114, u115, u116, u117, u118, u119, u120, u121, u122, u123, u124, u125, u126, u127, u128, u129, u130, u131, u132, u133, u134, u135, u136, u137, u138, u139, u140, u141, u142, u143, u144, u145, u146, u147, u148, u149, u150, u151, u152, u153, u154, u155, u156, u157, u158, u159, u160, u161, u162, u163, u164, u165, u166, u167, u168, u169, u170, u171, u172, u173, u174, u175, u176, u177, v178, v179, v180, v181, v182, v183, v184, v185, v186, v187, v188, v189, v190, v191, u192, u193, u194, u195, u196, u197, u198, u199, u200, u201, u202, u203, u204, u205, u206, u207, u208, u209, u210, u211, u212, u213, u214, u215, u216, u217, u218, u219], []⟩ w') :
    Code.wp P symT1 Q ⟨#[.slice (some ⟨blk, off, none⟩) n0 cap, .int .i64 a, .int .i64 m, .int .i64 b, .func (.func g) la cb, u5, u6, u7, u8, u9, u10, u11, u12, u13, u14, u15, u16, u17, .int .i64 mid, .int .i64 n, .int .i64 i, u21, u22, u23, .int .i64 e, u25, u26, u27, u28, u29, u30, u31, u32, u33, u34, u35, u36, u37, u38, u39, u40, u41, u42, u43, u44, u45, u46, u47, u48, u49, u50, u51, u52, u53, u54, u55, u56, u57, u58, u59, u60, u61, u62, u63, u64, u65, u66, u67, u68, u69, u70, u71, u72, u73, u74, u75, u76, u77, u78, u79, u80, u81, u82, u83, u84, u85, u86, u87, u88, u89, u90, u91, u92, u93, u94, u95, u96, u97, u98, u99, u100, u101, u102, u103, u104, u105, u106, u107, u108, u109, u110, u111, u112, u113, u114, u115, u116, u117, u118, u119, u120, u121, u122, u123, u124, u125, u126, u127, u128, u129, u130, u131, u132, u133, u134, u135, u136, u137, u138, u139, u140, u141, u142, u143, u144, u145, u146, u147, u148, u149, u150, u151, u152, u153, u154, u155, u156, u157, u158, u159, u160, u161, u162, u163, u164, u165, u166, u167, u168, u169, u170, u171, u172, u173, u174, u175, u176, u177, u178, u179, u180, u181, u182, u183, u184, u185, u186, u187, u188, u189, u190, u191, u192, u193, u194, u195, u196, u197, u198, u199, u200, u201, u202, u203, u204, u205, u206, u207, u208, u209, u210, u211, u212, u213, u214, u215, u216, u217, u218, u219], []⟩ wr := by
  have mixed := L.mixed; have t0 := L.t0; have a0 := L.a0; have z0 := L.z0; have v0 := L.v0; have t3 := L.t3; have a3 := L.a3; have z3 := L.z3; have v3 := L.v3; have t4 := L.t4; have a4 := L.a4; have z4 := L.z4; have v4 := L.v4; have t22 := L.t22; have a22 := L.a22; have z22 := L.z22; have v22 := L.v22; have t153 := L.t153; have a153 := L.a153; have z153 := L.z153; have v153 := L.v153; have t200 := L.t200; have a200 := L.a200; have z200 := L.z200; have v200 := L.v200; have aE := L.aE; have zE := L.zE; have u22 := run_underlying L.t22; have u3 := run_underlying L.t3; have u4 := run_underlying L.t4; have u200 := run_underlying L.t200
  have e177 := L.e177
  have e196 := L.e196
  clear L
  conv => arg 2; whnf
  by_cases c1 : i < m
  · have c1z := zlt c1
    by_cases c2 : m < e
    · have c2z := zlt c2
      have hc := hcall c1 c2
      go_wp2_with (go_at_call 196; (with_reducible refine hc.mono ?_); rintro e1 w1 ⟨rfl, hr1⟩)
      all_goals assumption
    · have c2z := znlt c2
      have hr := hstay (fun h => c2 h.2)
      go_wp2_with fail
      all_goals assumption
  · have c1z := znlt c1
    have hr := hstay (fun h => c1 h.1)
    go_wp2_with fail
    all_goals assumption

set_option maxHeartbeats 4000000 in
set_option maxRecDepth 1000000 in
theorem sym_p2 (k : Nat) (L : Lay P k) (enc : α → List Value) (cf : α → α → Int) (tg : α → Nat) (g : Nat) (la cb : Array Value) (blk off cap n0 a m b mid n i e : Nat) (w0 wr : World) (d : Array α)
    (R : World → Prop) (hcall : a < i → i < mid → Calls P 177 #[.slice (some ⟨blk, off, none⟩) n0 cap, .int .i64 a, .int .i64 i, .int .i64 mid, .func (.func g) la cb] wr fun e w' => e = .returned (.tuple #[]) ∧ R w') (hstay : ¬ (a < i ∧ i < mid) → R wr) (Q : Exit → Act → World → Prop)
    (u5 u6 u7 u8 u9 u10 u11 u12 u13 u14 u15 u16 u17 u21 u22 u23 u25 u26 u27 u28 u29 u30 u31 u32 u33 u34 u35 u36 u37 u38 u39 u40 u41 u42 u43 u44 u45 u46 u47 u48 u49 u50 u51 u52 u53 u54 u55 u56 u57 u58 u59 u60 u61 u62 u63 u64 u65 u66 u67 u68 u69 u70 u71 u72 u73 u74 u75 u76 u77 u78 u79 u80 u81 u82 u83 u84 u85 u86 u87 u88 u89 u90 u91 u92 u93 u94 u95 u96 u97 u98 u99 u100 u101 u102 u103 u104 u105 u106 u107 u108 u109 u110 u111 u112 u113 u114 u115 u116 u117 u118 u119 u120 u121 u122 u123 u124 u125 u126 u127 u128 u129 u130 u131 u132 u133 u134 u135 u136 u137 u138 u139 u140 u141 u142 u143 u144 u145 u146 u147 u148 u149 u150 u151 u152 u153 u154 u155 u156 u157 u158 u159 u160 u161 u162 u163 u164 u165 u166 u167 u168 u169 u170 u171 u172 u173 u174 u175 u176 u177 u178 u179 u180 u181 u182 u183 u184 u185 u186 u187 u188 u189 u190 u191 u192 u193 u194 u195 u196 u197 u198 u199 u200 u201 u202 u203 u204 u205 u206 u207 u208 u209 u210 u211 u212 u213 u214 u215 u216 u217 u218 u219 : Value)
    (hQ : ∀ (v192 v193 v194 v195 v196 v197 v198 v199 v200 v201 v202 v203 v204 v205 : Value) (w' : World), R w' → Q .normal ⟨#[.slice (some ⟨blk, off, none⟩) n0 cap, .int .i64 a, .int .i64 m, .int .i64 b, .func (.func g) la cb, u5, u6, u7, u8, u9, u10, u11, u12, u13, u14, u15, u16, u17, .int .i64 mid, .int .i64 n, .int .i64 i, u21, u22, u23, .int .i64 e, u25, u26, u27, u28, u29, u30, u31, u32, u33, u34, u35, u36, u37, u38, u39, u40, u41, u42, u43, u44, u45, u46, u47, u48, u49, u50, u51, u52, u53, u54, u55, u56, u57, u58, u59, u60, u61, u62, u63, u64, u65, u66, u67, u68, u69, u70, u71, u72, u73, u74, u75, u76, u77, u78, u79, u80, u81, u82, u83, u84, u85, u86, u87, u88, u89, u90, u91, u92, u93, u94, u95, u96, u97, u98, u99, u100, u101, u102, u103, u104, u105, u106, u107, u108, u109, u110, u111, u112, u113, u114, u115, u116, u117, u118, u119, u120, u121, u122, u123, u124, u125, u126, u127, u128, u129, u130, u131, u132, u133, u134, u135, u136, u137, u138, u139, u140, u141, u142, u143, u144, u145, u146, u147, u148, u149, u150, u151, u152, u153, u154, u155, u156, u157, u158, u159, u160, u161, u162, u163, u164, u165, u166, u167, u168, u169, u170, u171, u172, u173, u174, u175, u176, u177, u178, u179, u180, u181, u182, u183, u184, u185, u186, u187, u188, u189, u190, u191, v192, v193, v194, v195, v196, v197, v198, v199, v200, v201, v202, v203, v204, v205, u206, u207, u208, u209, u210, u211, u212, u213, u214, u215, u216, u217, u218, u219], []⟩ w') :
    Code.wp P symT2 Q ⟨#[.slice (some ⟨blk, off, none⟩) n0 cap, .int .i64 a, .int .i64 m, .int .i64 b, .func (.func g) la cb, u5, u6, u7, u8, u9, u10, u11, u12, u13, u14, u15, u16, u17, .int .i64 mid, .int .i64 n, .int .i64 i, u21, u22, u23, .int .i64 e, u25, u26, u27, u28, u29, u30, u31, u32, u33, u34, u35, u36, u37, u38, u39, u40, u41, u42, u43, u44, u45, u46, u47, u48, u49, u50, u51, u52, u53, u54, u55, u56, u57, u58, u59, u60, u61, u62, u63, u64, u65, u66, u67, u68, u69, u70, u71, u72, u73, u74, u75, u76, u77, u78, u79, u80, u81, u82, u83, u84, u85, u86, u87, u88, u89, u90, u91, u92, u93, u94, u95, u96, u97, u98, u99, u100, u101, u102, u103, u104, u105, u106, u107, u108, u109, u110, u111, u112, u113, u114, u115, u116, u117, u118, u119, u120, u121, u122, u123, u124, u125, u126, u127, u128, u129, u130, u131, u132, u133, u134, u135, u136, u137, u138, u139, u140, u141, u142, u143, u144, u145, u146, u147, u148, u149, u150, u151, u152, u153, u154, u155, u156, u157, u158, u159, u160, u161, u162, u163, u164, u165, u166, u167, u168, u169, u170, u171, u172, u173, u174, u175, u176, u177, u178, u179, u180, u181, u182, u183, u184, u185, u186, u187, u188, u189, u190, u191, u192, u193, u194, u195, u196, u197, u198, u199, u200, u201, u202, u203, u204, u205, u206, u207, u208, u209, u210, u211, u212, u213, u214, u215, u216, u217, u218, u219], []⟩ wr := by
  have mixed := L.mixed; have t0 := L.t0; have a0 := L.a0; have z0 := L.z0; have v0 := L.v0; have t3 := L.t3; have a3 := L.a3; have z3 := L.z3; have v3 := L.v3; have t4 := L.t4; have a4 := L.a4; have z4 := L.z4; have v4 := L.v4; have t22 := L.t22; have a22 := L.a22; have z22 := L.z22; have v22 := L.v22; have t153 := L.t153; have a153 := L.a153; have z153 := L.z153; have v153 := L.v153; have t200 := L.t200; have a200 := L.a200; have z200 := L.z200; have v200 := L.v200; have aE := L.aE; have zE := L.zE; have u22 := run_underlying L.t22; have u3 := run_underlying L.t3; have u4 := run_underlying L.t4; have u200 := run_underlying L.t200
  have e177 := L.e177
  have e196 := L.e196
  clear L
  conv => arg 2; whnf
  by_cases c1 : a < i
  · have c1z := zlt c1
    by_cases c2 : i < mid
    · have c2z := zlt c2
      have hc := hcall c1 c2
      go_wp2_with (go_at_call 177; (with_reducible refine hc.mono ?_); rintro e1 w1 ⟨rfl, hr1⟩)
      all_goals assumption
    · have c2z := znlt c2
      have hr := hstay (fun h => c2 h.2)
      go_wp2_with fail
      all_goals assumption
  · have c1z := znlt c1
    have hr := hstay (fun h => c1 h.1)
    go_wp2_with fail
    all_goals assumption

set_option maxHeartbeats 4000000 in
set_option maxRecDepth 1000000 in
theorem sym_p3 (k : Nat) (L : Lay P k) (enc : α → List Value) (cf : α → α → Int) (tg : α → Nat) (g : Nat) (la cb : Array Value) (blk off cap n0 a m b mid n i e : Nat) (w0 wr : World) (d : Array α)
    (R : World → Prop) (hcall : mid < e → e < b → Calls P 177 #[.slice (some ⟨blk, off, none⟩) n0 cap, .int .i64 mid, .int .i64 e, .int .i64 b, .func (.func g) la cb] wr fun e w' => e = .returned (.tuple #[]) ∧ R w') (hstay : ¬ (mid < e ∧ e < b) → R wr) (Q : Exit → Act → World → Prop)
    (u5 u6 u7 u8 u9 u10 u11 u12 u13 u14 u15 u16 u17 u21 u22 u23 u25 u26 u27 u28 u29 u30 u31 u32 u33 u34 u35 u36 u37 u38 u39 u40 u41 u42 u43 u44 u45 u46 u47 u48 u49 u50 u51 u52 u53 u54 u55 u56 u57 u58 u59 u60 u61 u62 u63 u64 u65 u66 u67 u68 u69 u70 u71 u72 u73 u74 u75 u76 u77 u78 u79 u80 u81 u82 u83 u84 u85 u86 u87 u88 u89 u90 u91 u92 u93 u94 u95 u96 u97 u98 u99 u100 u101 u102 u103 u104 u105 u106 u107 u108 u109 u110 u111 u112 u113 u114 u115 u116 u117 u118 u119 u120 u121 u122 u123 u124 u125 u126 u127 u128 u129 u130 u131 u132 u133 u134 u135 u136 u137 u138 u139 u140 u141 u142 u143 u144 u145 u146 u147 u148 u149 u150 u151 u152 u153 u154 u155 u156 u157 u158 u159 u160 u161 u162 u163 u164 u165 u166 u167 u168 u169 u170 u171 u172 u173 u174 u175 u176 u177 u178 u179 u180 u181 u182 u183 u184 u185 u186 u187 u188 u189 u190 u191 u192 u193 u194 u195 u196 u197 u198 u199 u200 u201 u202 u203 u204 u205 u206 u207 u208 u209 u210 u211 u212 u213 u214 u215 u216 u217 u218 u219 : Value)
    (hQ : ∀ (v206 v207 v208 v209 v210 v211 v212 v213 v214 v215 v216 v217 v218 v219 : Value) (w' : World), R w' → Q .normal ⟨#[.slice (some ⟨blk, off, none⟩) n0 cap, .int .i64 a, .int .i64 m, .int .i64 b, .func (.func g) la cb, u5, u6, u7, u8, u9, u10, u11, u12, u13, u14, u15, u16, u17, .int .i64 mid, .int .i64 n, .int .i64 i, u21, u22, u23, .int .i64 e, u25, u26, u27, u28, u29, u30, u31, u32, u33, u34, u35, u36, u37, u38, u39, u40, u41, u42, u43, u44, u45, u46, u47, u48, u49, u50, u51, u52, u53, u54, u55, u56, u57, u58, u59, u60, u61, u62, u63, u64, u65, u66, u67, u68, u69, u70, u71, u72, u73, u74, u75, u76, u77, u78, u79, u80, u81, u82, u83, u84, u85, u86, u87, u88, u89, u90, u91, u92, u93, u94, u95, u96, u97, u98, u99, u100, u101, u102, u103, u104, u105, u106, u107, u108, u109, u110, u111, u112, u113, u114, u115, u116, u117, u118, u119, u120, u121, u122, u123, u124, u125, u126, u127, u128, u129, u130, u131, u132, u133, u134, u135, u136, u137, u138, u139, u140, u141, u142, u143, u144, u145, u146, u147, u148, u149, u150, u151, u152, u153, u154, u155, u156, u157, u158, u159, u160, u161, u162, u163, u164, u165, u166, u167, u168, u169, u170, u171, u172, u173, u174, u175, u176, u177, u178, u179, u180, u181, u182, u183, u184, u185, u186, u187, u188, u189, u190, u191, u192, u193, u194, u195, u196, u197, u198, u199, u200, u201, u202, u203, u204, u205, v206, v207, v208, v209, v210, v211, v212, v213, v214, v215, v216, v217, v218, v219], []⟩ w') :
    Code.wp P symT3 Q ⟨#[.slice (some ⟨blk, off, none⟩) n0 cap, .int .i64 a, .int .i64 m, .int .i64 b, .func (.func g) la cb, u5, u6, u7, u8, u9, u10, u11, u12, u13, u14, u15, u16, u17, .int .i64 mid, .int .i64 n, .int .i64 i, u21, u22, u23, .int .i64 e, u25, u26, u27, u28, u29, u30, u31, u32, u33, u34, u35, u36, u37, u38, u39, u40, u41, u42, u43, u44, u45, u46, u47, u48, u49, u50, u51, u52, u53, u54, u55, u56, u57, u58, u59, u60, u61, u62, u63, u64, u65, u66, u67, u68, u69, u70, u71, u72, u73, u74, u75, u76, u77, u78, u79, u80, u81, u82, u83, u84, u85, u86, u87, u88, u89, u90, u91, u92, u93, u94, u95, u96, u97, u98, u99, u100, u101, u102, u103, u104, u105, u106, u107, u108, u109, u110, u111, u112, u113, u114, u115, u116, u117, u118, u119, u120, u121, u122, u123, u124, u125, u126, u127, u128, u129, u130, u131, u132, u133, u134, u135, u136, u137, u138, u139, u140, u141, u142, u143, u144, u145, u146, u147, u148, u149, u150, u151, u152, u153, u154, u155, u156, u157, u158, u159, u160, u161, u162, u163, u164, u165, u166, u167, u168, u169, u170, u171, u172, u173, u174, u175, u176, u177, u178, u179, u180, u181, u182, u183, u184, u185, u186, u187, u188, u189, u190, u191, u192, u193, u194, u195, u196, u197, u198, u199, u200, u201, u202, u203, u204, u205, u206, u207, u208, u209, u210, u211, u212, u213, u214, u215, u216, u217, u218, u219], []⟩ wr := by
  have mixed := L.mixed; have t0 := L.t0; have a0 := L.a0; have z0 := L.z0; have v0 := L.v0; have t3 := L.t3; have a3 := L.a3; have z3 := L.z3; have v3 := L.v3; have t4 := L.t4; have a4 := L.a4; have z4 := L.z4; have v4 := L.v4; have t22 := L.t22; have a22 := L.a22; have z22 := L.z22; have v22 := L.v22; have t153 := L.t153; have a153 := L.a153; have z153 := L.z153; have v153 := L.v153; have t200 := L.t200; have a200 := L.a200; have z200 := L.z200; have v200 := L.v200; have aE := L.aE; have zE := L.zE; have u22 := run_underlying L.t22; have u3 := run_underlying L.t3; have u4 := run_underlying L.t4; have u200 := run_underlying L.t200
  have e177 := L.e177
  have e196 := L.e196
  clear L
  conv => arg 2; whnf
  by_cases c1 : mid < e
  · have c1z := zlt c1
    by_cases c2 : e < b
    · have c2z := zlt c2
      have hc := hcall c1 c2
      go_wp2_with (go_at_call 177; (with_reducible refine hc.mono ?_); rintro e1 w1 ⟨rfl, hr1⟩)
      all_goals assumption
    · have c2z := znlt c2
      have hr := hstay (fun h => c2 h.2)
      go_wp2_with fail
      all_goals assumption
  · have c1z := znlt c1
    have hr := hstay (fun h => c1 h.1)
    go_wp2_with fail
    all_goals assumption

variable [Inhabited α]
/-- What the merge of a range answers. -/
def SymOk (P : Program) (enc : α → List Value) (k : Nat) (cf : α → α → Int) (tg : α → Nat) (g : Nat) (la cb : Array Value) (w0 : World) (blk off cap n a m b : Nat) (d : Array α) (w : World) : Prop :=
  Calls P 177 #[.slice (some ⟨blk, off, none⟩) n cap, .int .i64 a, .int .i64 m, .int .i64 b, .func (.func g) la cb] w fun e w' => e = .returned (.tuple #[]) ∧ ∃ d', Mrg cf tg a b d d' ∧ SB enc k w0 blk off d' w'

set_option maxHeartbeats 4000000 in
set_option maxRecDepth 1000000 in
theorem sym_tail (k : Nat) (L : Lay P k) (enc : α → List Value) (cf : α → α → Int) (tg : α → Nat) (g : Nat) (la cb : Array Value) (blk off cap n0 a m b mid n i e : Nat) (d : Array α) (w0 wr : World)
    (HN : Hid (d.size = n0)) (HS : Hid (SB enc k w0 blk off d wr)) (HT : Hid (Two cf tg a m b d)) (HCU : Hid (Cut cf tg a m b i e d)) (hbs : b ≤ n0) (hsz : n0 < 4611686018427387904)
    (hae : a ≤ i ∧ i ≤ m ∧ m ≤ e ∧ e ≤ b) (HM : Hid (mid = (a + b) / 2)) (hmb : a ≤ mid ∧ mid < b) (hab : a < m ∧ m < b)
    (HI : Hid (∀ (a' m' b' : Nat) (dk : Array α) (wr : World), b' - a' < b - a → a' < m' → m' < b' → dk.size = n0 → Two cf tg a' m' b' dk → SB enc k w0 blk off dk wr → SymOk P enc k cf tg g la cb w0 blk off cap n0 a' m' b' dk wr))
    (u5 u6 u7 u8 u9 u10 u11 u12 u13 u14 u15 u16 u17 u21 u22 u23 u25 u26 u27 u28 u29 u30 u31 u32 u33 u34 u35 u36 u37 u38 u39 u40 u41 u42 u43 u44 u45 u46 u47 u48 u49 u50 u51 u52 u53 u54 u55 u56 u57 u58 u59 u60 u61 u62 u63 u64 u65 u66 u67 u68 u69 u70 u71 u72 u73 u74 u75 u76 u77 u78 u79 u80 u81 u82 u83 u84 u85 u86 u87 u88 u89 u90 u91 u92 u93 u94 u95 u96 u97 u98 u99 u100 u101 u102 u103 u104 u105 u106 u107 u108 u109 u110 u111 u112 u113 u114 u115 u116 u117 u118 u119 u120 u121 u122 u123 u124 u125 u126 u127 u128 u129 u130 u131 u132 u133 u134 u135 u136 u137 u138 u139 u140 u141 u142 u143 u144 u145 u146 u147 u148 u149 u150 u151 u152 u153 u154 u155 u156 u157 u158 u159 u160 u161 u162 u163 u164 u165 u166 u167 u168 u169 u170 u171 u172 u173 u174 u175 u176 u177 u178 u179 u180 u181 u182 u183 u184 u185 u186 u187 u188 u189 u190 u191 u192 u193 u194 u195 u196 u197 u198 u199 u200 u201 u202 u203 u204 u205 u206 u207 u208 u209 u210 u211 u212 u213 u214 u215 u216 u217 u218 u219 : Value) :
    Code.wp P (rightC symTail) (bodyPost P Tryd.f177 fun e w' => e = .returned (.tuple #[]) ∧ ∃ d', Mrg cf tg a b d d' ∧ SB enc k w0 blk off d' w') ⟨#[.slice (some ⟨blk, off, none⟩) n0 cap, .int .i64 a, .int .i64 m, .int .i64 b, .func (.func g) la cb, u5, u6, u7, u8, u9, u10, u11, u12, u13, u14, u15, u16, u17, .int .i64 mid, .int .i64 n, .int .i64 i, u21, u22, u23, .int .i64 e, u25, u26, u27, u28, u29, u30, u31, u32, u33, u34, u35, u36, u37, u38, u39, u40, u41, u42, u43, u44, u45, u46, u47, u48, u49, u50, u51, u52, u53, u54, u55, u56, u57, u58, u59, u60, u61, u62, u63, u64, u65, u66, u67, u68, u69, u70, u71, u72, u73, u74, u75, u76, u77, u78, u79, u80, u81, u82, u83, u84, u85, u86, u87, u88, u89, u90, u91, u92, u93, u94, u95, u96, u97, u98, u99, u100, u101, u102, u103, u104, u105, u106, u107, u108, u109, u110, u111, u112, u113, u114, u115, u116, u117, u118, u119, u120, u121, u122, u123, u124, u125, u126, u127, u128, u129, u130, u131, u132, u133, u134, u135, u136, u137, u138, u139, u140, u141, u142, u143, u144, u145, u146, u147, u148, u149, u150, u151, u152, u153, u154, u155, u156, u157, u158, u159, u160, u161, u162, u163, u164, u165, u166, u167, u168, u169, u170, u171, u172, u173, u174, u175, u176, u177, u178, u179, u180, u181, u182, u183, u184, u185, u186, u187, u188, u189, u190, u191, u192, u193, u194, u195, u196, u197, u198, u199, u200, u201, u202, u203, u204, u205, u206, u207, u208, u209, u210, u211, u212, u213, u214, u215, u216, u217, u218, u219], []⟩ wr := by
  have hen : e ≤ n0 := by omega
  have hbd : b ≤ d.size := by rw [HN.out]; exact hbs
  have hI1 : mid - a < b - a := by omega
  have hI2 : b - mid < b - a := by have := HM.out; omega
  rw [symTail_eq]
  show Code.wp P (.seq symT1 (.seq symT2 symT3)) _ _ _
  refine wp_seq ?_
  refine sym_p1 k L enc cf tg g la cb blk off cap n0 a m b mid n i e w0 wr d (fun w' => ∃ d1 : Array α, PermIn a b d d1 ∧ Rot i m e d d1 ∧ SB enc k w0 blk off d1 w') ?_ ?_ _ _ _ _ _ _ _ _ _ _ _ _ _ _ _ _ _ _ _ _ _ _ _ _ _ _ _ _ _ _ _ _ _ _ _ _ _ _ _ _ _ _ _ _ _ _ _ _ _ _ _ _ _ _ _ _ _ _ _ _ _ _ _ _ _ _ _ _ _ _ _ _ _ _ _ _ _ _ _ _ _ _ _ _ _ _ _ _ _ _ _ _ _ _ _ _ _ _ _ _ _ _ _ _ _ _ _ _ _ _ _ _ _ _ _ _ _ _ _ _ _ _ _ _ _ _ _ _ _ _ _ _ _ _ _ _ _ _ _ _ _ _ _ _ _ _ _ _ _ _ _ _ _ _ _ _ _ _ _ _ _ _ _ _ _ _ _ _ _ _ _ _ _ _ _ _ _ _ _ _ _ _ _ _ _ _ _ _ _ _ _ _ _ _ _ _ _ _ _ _ _ _ _ _ _ _ _ _ _ _ _ _ ?_
  · intro c1 c2
    have h := rot_calls (P := P) k L enc g la cb blk off cap i m e d w0 wr HS.out c1 c2 (by rw [HN.out]; exact hen) (by rw [HN.out]; exact hsz)
    rw [HN.out] at h
    exact h.mono fun e1 w1 ⟨he, d1, hp, hr, hs⟩ => ⟨he, d1, permIn_mono d d1 i e a b hae.1 hae.2.2.2 hbd hp, hr, hs⟩
  · intro hno
    exact ⟨d, permIn_refl _ _ _, rot_none i m e d (edge_of hno hae.2.1 hae.2.2.1) hae.2.1 hae.2.2.1, HS.out⟩
  intro _ _ _ _ _ _ _ _ _ _ _ _ _ _ w1 ⟨d1, hp1, hr1, hs1⟩
  have HF : Four cf tg a i e b d d1 := Cut.four HT.out HCU.out hp1 hr1
  have HZ1 : d1.size = n0 := hp1.1.trans HN.out
  refine wp_seq ?_
  refine sym_p2 k L enc cf tg g la cb blk off cap n0 a m b mid n i e w0 w1 d1 (fun w' => ∃ d2 : Array α, Mrg cf tg a mid d1 d2 ∧ SB enc k w0 blk off d2 w') ?_ ?_ _ _ _ _ _ _ _ _ _ _ _ _ _ _ _ _ _ _ _ _ _ _ _ _ _ _ _ _ _ _ _ _ _ _ _ _ _ _ _ _ _ _ _ _ _ _ _ _ _ _ _ _ _ _ _ _ _ _ _ _ _ _ _ _ _ _ _ _ _ _ _ _ _ _ _ _ _ _ _ _ _ _ _ _ _ _ _ _ _ _ _ _ _ _ _ _ _ _ _ _ _ _ _ _ _ _ _ _ _ _ _ _ _ _ _ _ _ _ _ _ _ _ _ _ _ _ _ _ _ _ _ _ _ _ _ _ _ _ _ _ _ _ _ _ _ _ _ _ _ _ _ _ _ _ _ _ _ _ _ _ _ _ _ _ _ _ _ _ _ _ _ _ _ _ _ _ _ _ _ _ _ _ _ _ _ _ _ _ _ _ _ _ _ _ _ _ _ _ _ _ _ _ _ _ _ _ _ _ _ _ _ _ ?_
  · intro c1 c2
    exact HI.out a i mid d1 w1 hI1 c1 c2 HZ1 (by have := HF.L; rwa [← HM.out] at this) hs1
  · intro hno
    exact ⟨d1, (by have := HF.L; rwa [← HM.out] at this : Two cf tg a i mid d1).trivial hno, hs1⟩
  intro _ _ _ _ _ _ _ _ _ _ _ _ _ _ w2 ⟨d2, hm2, hs2⟩
  have HM2 : Mrg cf tg a ((a + b) / 2) d1 d2 := by rwa [HM.out] at hm2
  have HTR : Two cf tg mid e b d2 := by have := HF.right HM2; rwa [← HM.out] at this
  have HZ2 : d2.size = n0 := hm2.1.1.trans HZ1
  refine sym_p3 k L enc cf tg g la cb blk off cap n0 a m b mid n i e w0 w2 d2 (fun w' => ∃ d3 : Array α, Mrg cf tg mid b d2 d3 ∧ SB enc k w0 blk off d3 w') ?_ ?_ _ _ _ _ _ _ _ _ _ _ _ _ _ _ _ _ _ _ _ _ _ _ _ _ _ _ _ _ _ _ _ _ _ _ _ _ _ _ _ _ _ _ _ _ _ _ _ _ _ _ _ _ _ _ _ _ _ _ _ _ _ _ _ _ _ _ _ _ _ _ _ _ _ _ _ _ _ _ _ _ _ _ _ _ _ _ _ _ _ _ _ _ _ _ _ _ _ _ _ _ _ _ _ _ _ _ _ _ _ _ _ _ _ _ _ _ _ _ _ _ _ _ _ _ _ _ _ _ _ _ _ _ _ _ _ _ _ _ _ _ _ _ _ _ _ _ _ _ _ _ _ _ _ _ _ _ _ _ _ _ _ _ _ _ _ _ _ _ _ _ _ _ _ _ _ _ _ _ _ _ _ _ _ _ _ _ _ _ _ _ _ _ _ _ _ _ _ _ _ _ _ _ _ _ _ _ _ _ _ _ _ _ ?_
  · intro c1 c2
    exact HI.out mid e b d2 w2 hI2 c1 c2 HZ2 HTR hs2
  · intro hno
    exact ⟨d2, HTR.trivial hno, hs2⟩
  intro _ _ _ _ _ _ _ _ _ _ _ _ _ _ w3 ⟨d3, hm3, hs3⟩
  go_end0
  exact ⟨rfl, d3, HF.done HM2 (by rwa [HM.out] at hm3), hs3⟩
end Go.Proofs.YtojocffjajcdmaaDoor.ST
/- slices.SortStableFunc: two rows merged in place, with the search ahead. -/
namespace Go.Proofs.YtojocffjajcdmaaDoor.ST
open Go.Shelf Go.RowKit Go.Lib Go.Sort Go.Proofs
set_option linter.unusedVariables false
set_option linter.unusedSimpArgs false
variable {P : Program} {α : Type} [Inhabited α]

set_option maxHeartbeats 8000000 in
set_option maxRecDepth 1000000 in
/-- slices.symMergeCmpFunc: two rows of two elements or more. -/
theorem sym_gen (k : Nat) (L : Lay P k) (enc : α → List Value) (cf : α → α → Int) (tg : α → Nat) (hO : SWO (ltOf cf)) (g : Nat) (la cb : Array Value) (blk off cap n0 a m b : Nat) (d : Array α) (w0 w : World)
    (eg : ∀ args w, (callFunc g args).run P w = .ok (.enter g args) w) (hcmp : CmpB P g la cb enc k cf w0 blk off n0) (hn0 : d.size = n0)
    (S : SB enc k w0 blk off d w) (T : Two cf tg a m b d) (h1 : a + 1 < m) (h2 : m + 1 < b) (hsz : n0 < 4611686018427387904)
    (IH : ∀ (a' m' b' : Nat) (dk : Array α) (wr : World), b' - a' < b - a → a' < m' → m' < b' → dk.size = n0 → Two cf tg a' m' b' dk → SB enc k w0 blk off dk wr → SymOk P enc k cf tg g la cb w0 blk off cap n0 a' m' b' dk wr) :
    SymOk P enc k cf tg g la cb w0 blk off cap n0 a m b d w := by
  unfold SymOk
  have mixed := L.mixed; have t0 := L.t0; have a0 := L.a0; have z0 := L.z0; have v0 := L.v0; have t3 := L.t3; have a3 := L.a3; have z3 := L.z3; have v3 := L.v3; have t4 := L.t4; have a4 := L.a4; have z4 := L.z4; have v4 := L.v4; have t22 := L.t22; have a22 := L.a22; have z22 := L.z22; have v22 := L.v22; have t153 := L.t153; have a153 := L.a153; have z153 := L.z153; have v153 := L.v153; have t200 := L.t200; have a200 := L.a200; have z200 := L.z200; have v200 := L.v200; have aE := L.aE; have zE := L.zE; have u22 := run_underlying L.t22; have u3 := run_underlying L.t3; have u4 := run_underlying L.t4; have u200 := run_underlying L.t200
  have FG := L.p177
  have HC := Lib.hid hcmp
  have HO := Lib.hid hO
  have HK := Lib.hid S.hk
  have HT := Lib.hid T
  have HI := Lib.hid IH
  have HN := Lib.hid hn0
  have hbs : b ≤ n0 := by have := T.bs; omega
  have HL := Lib.hid L
  have S0 : Hid (SB enc k w0 blk off d w ∧ BsM cf tg ((a + b) / 2 + m) (s0of a m b) (r0of a m b) (s0of a m b) (r0of a m b) d) := ⟨S, BsM.start (by omega) (by omega)⟩
  clear S L hcmp hO T IH hn0
  obtain ⟨q1, hq1⟩ : ∃ q, q = m - a := ⟨_, rfl⟩
  obtain ⟨q2, hq2⟩ : ∃ q, q = b - m := ⟨_, rfl⟩
  obtain ⟨mid, hmid⟩ : ∃ q, q = (a + b) / 2 := ⟨_, rfl⟩
  obtain ⟨n, hn⟩ : ∃ q, q = mid + m := ⟨_, rfl⟩
  obtain ⟨p, hp⟩ : ∃ q, q = n - 1 := ⟨_, rfl⟩
  have f1 : IntKind.i64.wrap ((m : Int) - (a : Int)) = (q1 : Int) := by rw [IntKind.wrap_i64]; omega
  have f2 : ((q1 : Int) == 1) = false := by simp; omega
  have f3 : IntKind.i64.wrap ((b : Int) - (m : Int)) = (q2 : Int) := by rw [IntKind.wrap_i64]; omega
  have f4 : ((q2 : Int) == 1) = false := by simp; omega
  have f5 : IntKind.i64.wrap ((a : Int) + (b : Int)) = (a : Int) + (b : Int) := by rw [IntKind.wrap_i64]; omega
  have f6 : ((a : Int) + (b : Int)) / 2 = (mid : Int) := by omega
  have f7 : IntKind.i64.wrap ((mid : Int) + (m : Int)) = (n : Int) := by rw [IntKind.wrap_i64]; omega
  have f8 : IntKind.i64.wrap ((n : Int) - 1) = (p : Int) := by rw [IntKind.wrap_i64]; omega
  obtain ⟨s0, hs0⟩ : ∃ q, q = s0of a m b := ⟨_, rfl⟩
  obtain ⟨r0, hr0⟩ : ∃ q, q = r0of a m b := ⟨_, rfl⟩
  have hsr := sr0 (a := a) (m := m) (b := b) (by omega) (by omega)
  have hb0 := bounds' (a := a) (m := m) (b := b) (s := r0of a m b) (by omega) (by omega) hsr (Nat.le_refl _)
  have hb1 := bounds' (a := a) (m := m) (b := b) (s := s0of a m b) (by omega) (by omega) (Nat.le_refl _) hsr
  have EQ := Lib.hid (And.intro hmid (And.intro hn (And.intro hp (And.intro hs0 hr0))))
  have BD : Hid (s0 ≤ r0 ∧ r0 ≤ m ∧ a ≤ s0 ∧ r0 ≤ mid ∧ mid < b ∧ a ≤ mid) := by show _ ∧ _; rw [hs0, hr0, hmid]; omega
  have SR : Hid (mid < m → s0 = n - b ∧ r0 = mid) := by intro h; rw [hs0, hr0, hn]; unfold s0of r0of; rw [← hmid, if_pos h, if_pos h]; exact ⟨rfl, rfl⟩
  have SR2 : Hid (¬ mid < m → s0 = a ∧ r0 = m) := by intro h; rw [hs0, hr0]; unfold s0of r0of; rw [← hmid, if_neg h, if_neg h]; exact ⟨rfl, rfl⟩
  have HBD := Lib.hid (fun c (h1' : s0 ≤ c) (h2' : c < r0) => bounds (a := a) (m := m) (b := b) (c := c) (by omega) (by omega) (by omega) (by omega))
  clear hq1 hq2 hsr hb0 hb1
  clear hs0 hr0
  have HMN := Lib.hid (And.intro hmid (And.intro hn hp))
  clear hmid hn hp
  go_enter FG, Tryd.ntmps177
  go_upto_if 140 with fail
  go_cut [20, 21] (fun v20 v21 wc => v20 = .int .i64 s0 ∧ v21 = .int .i64 r0 ∧ wc = w)
  case first =>
    by_cases hg : mid < m
    · have hgz : (mid : Int) < (m : Int) := by omega
      obtain ⟨x1, x2⟩ := SR.out hg
      have f9 : IntKind.i64.wrap ((n : Int) - (b : Int)) = (s0 : Int) := by have := HMN.out; have := BD.out; rw [IntKind.wrap_i64]; omega
      clear x1
      subst x2
      go_wp2_with fail
      go_meet
      exact ⟨rfl, rfl, rfl⟩
    · have hgz : ¬ (mid : Int) < (m : Int) := by omega
      obtain ⟨x1, x2⟩ := SR2.out hg
      subst x1 x2
      go_wp2_with fail
      go_meet
      exact ⟨rfl, rfl, rfl⟩
  case rest =>
  obtain ⟨rfl, rfl, rfl⟩ := hcut
  clear f1 f2 f3 f4 f5 f6 f7
  go_wp2_with fail
  clear f8
  go_loopg [20, 21] (b - a) (fun kx s8 s9 wr => ∃ (i j : Nat), s8 = .int .i64 i ∧ s9 = .int .i64 j ∧ s0 ≤ i ∧ i ≤ j ∧ j ≤ r0 ∧ j - i ≤ kx ∧ Hid (SB enc k w0 blk off d wr ∧ BsM cf tg ((a + b) / 2 + m) (s0of a m b) (r0of a m b) i j d))
  case atStart => have := BD.out; exact ⟨s0, r0, rfl, rfl, Nat.le_refl _, by omega, Nat.le_refl _, by omega, S0.out.1, by have e1 := EQ.out.2.2.2.1; have e2 := EQ.out.2.2.2.2; rw [e1, e2]; exact S0.out.2⟩
  case round =>
    clear S0
    obtain ⟨i, j, rfl, rfl, hai, hij, hjb, hkx, S1⟩ := hrel
    by_cases hlt : i < j
    · have hltz : (i : Int) < (j : Int) := by omega
      obtain ⟨h, hh⟩ : ∃ h, h = (i + j) / 2 := ⟨_, rfl⟩
      have hbd := HBD.out h (by omega) (by omega)
      have hmn := HMN.out
      have hbd0 := BD.out
      have hsd := HN.out
      have r0' : IntKind.i64.wrap ((i : Int) + (j : Int)) = (i : Int) + (j : Int) := by rw [IntKind.wrap_i64]; omega
      have he : ((i : Int) + (j : Int)) / 2 = (h : Int) := by omega
      obtain ⟨y, hy⟩ : ∃ y, y = p - h := ⟨_, rfl⟩
      have r1 : IntKind.i64.wrap ((p : Int) - (h : Int)) = (y : Int) := by rw [IntKind.wrap_i64]; omega
      have hyy : y = (a + b) / 2 + m - 1 - h := by omega
      have hih : i ≤ h := by omega
      have hhj : h < j := by omega
      have ph : (h : Int) < (n0 : Int) := by omega
      have py : (y : Int) < (n0 : Int) := by omega
      have phn : h < d.size := by omega
      have pyn : y < d.size := by omega
      have lj := fun n' os' => S1.out.1.ldR P h phn n' os'
      have lp := fun n' os' => S1.out.1.ldR P y pyn n' os'
      have hcg := fun n' os' => HC.out.reg S1.out.1 hsd d[y]! d[h]! n' os'
      have n1 : (enc d[h]!).length = k := HK.out _
      have n2 : (enc d[y]!).length = k := HK.out _
      obtain ⟨xj, hxj⟩ : ∃ x, d[h]! = x := ⟨_, rfl⟩
      obtain ⟨xp, hxp⟩ : ∃ x, d[y]! = x := ⟨_, rfl⟩
      rw [hxj] at lj hcg n1
      rw [hxp] at lp hcg n2
      rw [hyy] at hxp
      have HXJ := Lib.hid hxj
      have HXP := Lib.hid hxp
      clear hxj hxp hh hbd hmn hbd0 hsd hy hyy phn pyn
      by_cases hlv : cf xp xj < 0
      case neg =>
        have hdec : decide (cf xp xj < 0) = false := decide_eq_false hlv
        have HLV := Lib.hid hlv
        clear hlv
        go_wp2_with fail
        refine wp_region_quiet_below (by assumption) (by kernel_rfl) ?_
        repeat (quiet_step (first | (go_at_fn g; exact hcg _ _)))
        refine wpQuiet_nil ?_
        intro _ hw'
        obtain ⟨⟨nq, osq⟩, hw''⟩ := hw'
        subst hw''
        go_wp2
        go_roundg (j - (h + 1))
        case measure => omega
        case rel => exact ⟨h + 1, j, by go_num, rfl, by omega, by omega, hjb, Nat.le_refl _, S1.out.1.below (below_regrown wr nq osq), S1.out.2.up HO.out HT.out (by omega) (by omega) hih hhj (by rw [HXJ.out, HXP.out]; exact decide_eq_false (by have := HLV.out; omega))⟩
      case pos =>
        have hdec : decide (cf xp xj < 0) = true := decide_eq_true hlv
        have HLV := Lib.hid hlv
        clear hlv
        go_wp2_with fail
        refine wp_region_quiet_below (by assumption) (by kernel_rfl) ?_
        repeat (quiet_step (first | (go_at_fn g; exact hcg _ _)))
        refine wpQuiet_nil ?_
        intro _ hw'
        obtain ⟨⟨nq, osq⟩, hw''⟩ := hw'
        subst hw''
        go_wp2
        go_roundg (h - i)
        case measure => omega
        case rel => exact ⟨i, h, rfl, by go_num, hai, hih, by omega, Nat.le_refl _, S1.out.1.below (below_regrown wr nq osq), S1.out.2.down HO.out HT.out (by omega) (by omega) hih hhj (by rw [HXJ.out, HXP.out]; exact decide_eq_true HLV.out)⟩
    · obtain rfl : i = j := by omega
      have hltz : ¬ (i : Int) < (i : Int) := by omega
      have hcutd := S1.out.2.cut HO.out HT.out (by omega) (by omega)
      have hS := S1.out.1
      obtain ⟨e, he⟩ : ∃ e, e = (a + b) / 2 + m - i := ⟨_, rfl⟩
      rw [← he] at hcutd
      have hmn := HMN.out
      have hbd0 := BD.out
      have r1 : IntKind.i64.wrap ((n : Int) - (i : Int)) = (e : Int) := by rw [IntKind.wrap_i64]; omega
      have hae : a ≤ i ∧ i ≤ m ∧ m ≤ e ∧ e ≤ b := ⟨hcutd.sa, hcutd.sm, hcutd.me, hcutd.eb⟩
      have HCU := Lib.hid hcutd
      have HS := Lib.hid hS
      have HM := Lib.hid hmn.1
      have hmb : a ≤ mid ∧ mid < b := by omega
      clear hcutd hS he hmn hbd0 S1
      go_upto_region 38 with fail
      refine sym_p0 k HL.out enc cf tg g la cb blk off cap n0 a m b mid n i e r1 _ wr _ _ _ _ _ _ _ _ _ _ _ _ _ _ _ _ _ _ _ _ _ _ _ _ _ _ _ _ _ _ _ _ _ _ _ _ _ _ _ _ _ _ _ _ _ _ _ _ _ _ _ _ _ _ _ _ _ _ _ _ _ _ _ _ _ _ _ _ _ _ _ _ _ _ _ _ _ _ _ _ _ _ _ _ _ _ _ _ _ _ _ _ _ _ _ _ _ _ _ _ _ _ _ _ _ _ _ _ _ _ _ _ _ _ _ _ _ _ _ _ _ _ _ _ _ _ _ _ _ _ _ _ _ _ _ _ _ _ _ _ _ _ _ _ _ _ _ _ _ _ _ _ _ _ _ _ _ _ _ _ _ _ _ _ _ _ _ _ _ _ _ _ _ _ _ _ _ _ _ _ _ _ _ _ _ _ _ _ _ _ _ _ _ _ _ _ _ _ _ _ _ _ _ _ _ _ _ _ _ _ _ _ ?_
      intro v175 v176 v177
      (try simp only [Exit.then])
      first | apply_assumption | go_step
      refine sym_tail k HL.out enc cf tg g la cb blk off cap n0 a m b mid n i e d w0 wr HN.out HS HT HCU hbs hsz hae HM hmb ⟨by omega, by omega⟩ HI _ _ _ _ _ _ _ _ _ _ _ _ _ _ _ _ _ _ _ _ _ _ _ _ _ _ _ _ _ _ _ _ _ _ _ _ _ _ _ _ _ _ _ _ _ _ _ _ _ _ _ _ _ _ _ _ _ _ _ _ _ _ _ _ _ _ _ _ _ _ _ _ _ _ _ _ _ _ _ _ _ _ _ _ _ _ _ _ _ _ _ _ _ _ _ _ _ _ _ _ _ _ _ _ _ _ _ _ _ _ _ _ _ _ _ _ _ _ _ _ _ _ _ _ _ _ _ _ _ _ _ _ _ _ _ _ _ _ _ _ _ _ _ _ _ _ _ _ _ _ _ _ _ _ _ _ _ _ _ _ _ _ _ _ _ _ _ _ _ _ _ _ _ _ _ _ _ _ _ _ _ _ _ _ _ _ _ _ _ _ _ _ _ _ _ _ _ _ _ _ _ _ _ _ _ _ _ _ _ _ _
end Go.Proofs.YtojocffjajcdmaaDoor.ST
/- slices.SortStableFunc: the whole. -/
namespace Go.Proofs.YtojocffjajcdmaaDoor.ST
open Go.Shelf Go.RowKit Go.Lib Go.Sort Go.Proofs
set_option linter.unusedVariables false
set_option linter.unusedSimpArgs false
variable {P : Program} {α : Type} [Inhabited α]

theorem sym_calls (k : Nat) (L : Lay P k) (enc : α → List Value) (cf : α → α → Int) (tg : α → Nat) (hO : SWO (ltOf cf)) (g : Nat) (la cb : Array Value) (blk off cap n0 : Nat) (w0 : World)
    (eg : ∀ args w, (callFunc g args).run P w = .ok (.enter g args) w) (hcmp : CmpB P g la cb enc k cf w0 blk off n0) (hsz : n0 < 4611686018427387904) :
    ∀ (N a m b : Nat) (d : Array α) (w : World), b - a ≤ N → a < m → m < b → d.size = n0 → Two cf tg a m b d → SB enc k w0 blk off d w → SymOk P enc k cf tg g la cb w0 blk off cap n0 a m b d w := by
  intro N
  induction N with
  | zero => intro a m b d w h1 h2 h3; omega
  | succ N ih =>
    intro a m b d w h1 h2 h3 hs T S
    by_cases c1 : m = a + 1
    · subst c1
      subst hs
      have := sym_one (P := P) k L enc cf tg hO g la cb blk off cap a b d w0 w eg hcmp S T hsz
      unfold SymOk
      rwa [show ((a + 1 : Nat) : Int) = (a : Int) + 1 by omega]
    · by_cases c2 : b = m + 1
      · subst c2
        subst hs
        have := sym_last (P := P) k L enc cf tg hO g la cb blk off cap a m d w0 w eg hcmp S T (by omega) hsz
        unfold SymOk
        rwa [show ((m + 1 : Nat) : Int) = (m : Int) + 1 by omega]
      · exact sym_gen (P := P) k L enc cf tg hO g la cb blk off cap n0 a m b d w0 w eg hcmp hs S T (by omega) (by omega) hsz (fun a' m' b' dk wr x1 x2 x3 x4 x5 x6 => ih a' m' b' dk wr (by omega) x2 x3 x4 x5 x6)

/-- The first pass, up to x. -/
def B1 (cf : α → α → Int) (tg : α → Nat) (n x : Nat) (d0 d : Array α) : Prop := PermIn 0 n d0 d ∧ ∃ k, x = k * 20 ∧ Blo cf tg n (fun p q => Sb 20 p q ∧ q < k * 20) d
/-- A later pass, up to x. -/
def B2 (cf : α → α → Int) (tg : α → Nat) (n bs x : Nat) (d0 d : Array α) : Prop := PermIn 0 n d0 d ∧ ∃ k, x = k * (bs * 2) ∧ Blo cf tg n (Sm bs k) d
/-- Ahead of a later pass. -/
def B3 (cf : α → α → Int) (tg : α → Nat) (n bs : Nat) (d0 d : Array α) : Prop := PermIn 0 n d0 d ∧ Blo cf tg n (Sm bs 0) d

variable {cf : α → α → Int} {tg : α → Nat}
theorem perm_whole {n a b : Nat} {d0 d d' : Array α} (h : PermIn 0 n d0 d) (hM : Mrg cf tg a b d d') (hb : b ≤ n) (hn : n ≤ d.size) : PermIn 0 n d0 d' :=
  permIn_trans _ _ _ _ _ h (permIn_mono d d' a b 0 n (Nat.zero_le _) hb hn hM.1)
theorem B1.start {d : Array α} (hA : Asc tg 0 d.size d) : B1 cf tg d.size 0 d d := ⟨permIn_refl _ _ _, 0, by omega, by simpa using Blo.start (cf := cf) hA⟩
theorem B1.size {n x : Nat} {d0 d : Array α} (h : B1 cf tg n x d0 d) : d.size = n := by obtain ⟨_, k, _, h⟩ := h; exact h.size
theorem B2.size {n bs x : Nat} {d0 d : Array α} (h : B2 cf tg n bs x d0 d) : d.size = n := by obtain ⟨_, k, _, h⟩ := h; exact h.size
/-- What is still to be put in order has its tags rising. -/
theorem B1.asc {n x b : Nat} {d0 d : Array α} (h : B1 cf tg n x d0 d) (hb : b ≤ n) : Asc tg x b d := by
  obtain ⟨_, k, rfl, h⟩ := h
  exact fun p q h1 h2 h3 => h.other p q h2 (by omega) (fun hx => by have := hx.2; omega)
theorem B1.next {n x : Nat} {d0 d d' : Array α} (h : B1 cf tg n x d0 d) (hb : x + 20 ≤ n) (hM : Mrg cf tg x (x + 20) d d') : B1 cf tg n (x + 20) d0 d' := by
  obtain ⟨hp, k, rfl, h⟩ := h
  have e : k * 20 + 20 = (k + 1) * 20 := by omega
  rw [e] at hM hb ⊢
  exact ⟨perm_whole hp hM hb (Nat.le_of_eq h.size.symm), k + 1, rfl, h.next1 (Or.inl rfl) (by omega) hb hM⟩
theorem B1.last {n x : Nat} {d0 d d' : Array α} (h : B1 cf tg n x d0 d) (hb : n ≤ x + 20) (hx : x ≤ n) (hM : Mrg cf tg x n d d') : B3 cf tg n 20 d0 d' := by
  obtain ⟨hp, k, rfl, h⟩ := h
  exact ⟨perm_whole hp hM (Nat.le_refl _) (Nat.le_of_eq h.size.symm), (h.next1 (Or.inr ⟨rfl, by omega⟩) hx (Nat.le_refl _) hM).all1 (by omega)⟩
theorem B3.start {n bs : Nat} {d0 d : Array α} (h : B3 cf tg n bs d0 d) : B2 cf tg n bs 0 d0 d := ⟨h.1, 0, by omega, h.2⟩
theorem dbl (k bs : Nat) : (k + 1) * (bs * 2) = k * (bs * 2) + 2 * bs := by rw [Nat.add_mul]; omega
theorem B2.two {n bs x b : Nat} {d0 d : Array α} (h : B2 cf tg n bs x d0 d) (hb : b ≤ x + 2 * bs) (hmb : x + bs ≤ b) (hbn : b ≤ n) : Two cf tg x (x + bs) b d := by
  obtain ⟨hp, k, rfl, h⟩ := h
  exact h.two (by rw [dbl]; exact hb) hmb hbn
theorem B2.next {n bs x : Nat} {d0 d d' : Array α} (h : B2 cf tg n bs x d0 d) (hb : x + 2 * bs ≤ n) (hM : Mrg cf tg x (x + 2 * bs) d d') : B2 cf tg n bs (x + 2 * bs) d0 d' := by
  obtain ⟨hp, k, rfl, h⟩ := h
  rw [← dbl] at hM hb ⊢
  exact ⟨perm_whole hp hM hb (Nat.le_of_eq h.size.symm), k + 1, rfl, h.next2 (Or.inl rfl) (by rw [dbl]; omega) hb hM⟩
theorem B2.last {n bs x : Nat} {d0 d d' : Array α} (h : B2 cf tg n bs x d0 d) (hb : n ≤ x + 2 * bs) (hx : x ≤ n) (hM : Mrg cf tg x n d d') : B3 cf tg n (bs * 2) d0 d' := by
  obtain ⟨hp, k, rfl, h⟩ := h
  rw [← dbl] at hb
  exact ⟨perm_whole hp hM (Nat.le_refl _) (Nat.le_of_eq h.size.symm), (h.next2 (Or.inr ⟨rfl, hb⟩) hx (Nat.le_refl _) hM).again hb⟩
theorem B2.alone {n bs x : Nat} {d0 d : Array α} (h : B2 cf tg n bs x d0 d) (hb : n ≤ x + bs) : B3 cf tg n (bs * 2) d0 d := by
  obtain ⟨hp, k, rfl, h⟩ := h
  exact ⟨hp, (h.alone hb).again (by rw [dbl]; omega)⟩
theorem B3.done {n bs : Nat} {d0 d : Array α} (h : B3 cf tg n bs d0 d) (hn : n ≤ bs) : Mrg cf tg 0 n d0 d := ⟨h.1, h.2.done hn⟩

set_option maxHeartbeats 8000000 in
set_option maxRecDepth 1000000 in
/-- slices.stableCmpFunc. -/
theorem stable_calls (k : Nat) (L : Lay P k) (enc : α → List Value) (cf : α → α → Int) (tg : α → Nat) (hO : SWO (ltOf cf)) (g : Nat) (la cb : Array Value) (blk off cap : Nat) (d : Array α) (w0 w : World)
    (eg : ∀ args w, (callFunc g args).run P w = .ok (.enter g args) w) (hcmp : CmpB P g la cb enc k cf w0 blk off d.size)
    (S : SB enc k w0 blk off d w) (hA : Asc tg 0 d.size d) (hsz : d.size < 4398046511104) :
    Calls P 150 #[.slice (some ⟨blk, off, none⟩) d.size cap, .int .i64 d.size, .func (.func g) la cb] w fun e w' => e = .returned (.tuple #[]) ∧ ∃ d', Mrg cf tg 0 d.size d d' ∧ SB enc k w0 blk off d' w' := by
  have mixed := L.mixed; have t0 := L.t0; have a0 := L.a0; have z0 := L.z0; have v0 := L.v0; have t3 := L.t3; have a3 := L.a3; have z3 := L.z3; have v3 := L.v3; have t4 := L.t4; have a4 := L.a4; have z4 := L.z4; have v4 := L.v4; have t22 := L.t22; have a22 := L.a22; have z22 := L.z22; have v22 := L.v22; have t153 := L.t153; have a153 := L.a153; have z153 := L.z153; have v153 := L.v153; have t200 := L.t200; have a200 := L.a200; have z200 := L.z200; have v200 := L.v200; have aE := L.aE; have zE := L.zE; have u22 := run_underlying L.t22; have u3 := run_underlying L.t3; have u4 := run_underlying L.t4; have u200 := run_underlying L.t200
  have FG := L.p150
  have e176 := L.e176
  have e177 := L.e177
  obtain ⟨n, hn⟩ : ∃ n, n = d.size := ⟨_, rfl⟩
  have S0 : Hid (SB enc k w0 blk off d w ∧ B1 cf tg n 0 d d) := ⟨S, by rw [hn]; exact B1.start hA⟩
  rw [← hn] at hcmp hsz ⊢
  have HIN := Lib.hid (fun (a b : Nat) (dk : Array α) (wr : World) (hs : dk.size = n) (hS : SB enc k w0 blk off dk wr) (hA' : Asc tg a b dk) (h1 : a ≤ b) (h2 : b ≤ n) =>
    (by have h := ins_calls (P := P) k L enc cf tg hO g la cb blk off cap a b dk w0 wr eg (by rw [hs]; exact hcmp) hS hA' h1 (by omega) (by omega); rwa [hs] at h :
      Calls P 176 #[.slice (some ⟨blk, off, none⟩) n cap, .int .i64 a, .int .i64 b, .func (.func g) la cb] wr fun e w' => e = .returned (.tuple #[]) ∧ ∃ d', Mrg cf tg a b dk d' ∧ SB enc k w0 blk off d' w'))
  have HSY := Lib.hid (fun (a m b : Nat) (dk : Array α) (wr : World) (h1 : a < m) (h2 : m < b) (hs : dk.size = n) (T : Two cf tg a m b dk) (hS : SB enc k w0 blk off dk wr) =>
    (by have h := sym_calls (P := P) k L enc cf tg hO g la cb blk off cap n w0 eg hcmp (by omega) (b - a) a m b dk wr (Nat.le_refl _) h1 h2 hs T hS; unfold SymOk at h; exact h :
      Calls P 177 #[.slice (some ⟨blk, off, none⟩) n cap, .int .i64 a, .int .i64 m, .int .i64 b, .func (.func g) la cb] wr fun e w' => e = .returned (.tuple #[]) ∧ ∃ d', Mrg cf tg a b dk d' ∧ SB enc k w0 blk off d' w'))
  clear S L hcmp hO hA hn
  go_enter FG, Tryd.ntmps150
  go_wp2
  go_loopg [7, 8] n (fun kx s7 s8 wr => ∃ (x y : Nat) (dk : Array α), s7 = .int .i64 x ∧ s8 = .int .i64 y ∧ y = x + 20 ∧ x ≤ n ∧ n - x ≤ kx ∧ Hid (SB enc k w0 blk off dk wr ∧ B1 cf tg n x d dk))
  case atStart => exact ⟨0, 20, d, rfl, rfl, rfl, Nat.zero_le _, by omega, S0⟩
  case round =>
    clear S0
    obtain ⟨x, y, dk, rfl, rfl, hxy, hxn, hkx, S1⟩ := hrel
    by_cases hyn : y ≤ n
    · have hynz : (y : Int) ≤ (n : Int) := by omega
      have hc := HIN.out x y dk wr S1.out.2.size S1.out.1 (S1.out.2.asc hyn) (by omega) hyn
      have r1 : IntKind.i64.wrap ((y : Int) + 20) = ((y + 20 : Nat) : Int) := by rw [IntKind.wrap_i64]; omega
      obtain ⟨z, hz⟩ : ∃ z, z = y + 20 := ⟨_, rfl⟩
      rw [← hz] at r1
      have HXY := Lib.hid (And.intro hxy hz)
      clear hxy hz
      go_wp2_with (go_at_call 176; (with_reducible refine hc.mono ?_); rintro e w1 ⟨rfl, d1, hm1, hs1⟩)
      go_roundg (n - y)
      case measure => have := HXY.out.1; omega
      case rel =>
        have hxy := HXY.out.1
        have hz := HXY.out.2
        exact ⟨y, z, d1, rfl, rfl, hz, hyn, Nat.le_refl _, hs1, by subst hxy; exact S1.out.2.next hyn hm1⟩
    · have hynz : ¬ (y : Int) ≤ (n : Int) := by omega
      have hc := HIN.out x n dk wr S1.out.2.size S1.out.1 (S1.out.2.asc (Nat.le_refl _)) hxn (Nat.le_refl _)
      have HXY := Lib.hid (show n ≤ x + 20 by omega)
      have HB1 := Lib.hid S1.out.2
      clear hxy S1
      go_wp2_with (go_at_call 176; (with_reducible refine hc.mono ?_); rintro e w1 ⟨rfl, d1, hm1, hs1⟩)
      have S2 : Hid (SB enc k w0 blk off d1 w1 ∧ B3 cf tg n 20 d d1) := ⟨hs1, HB1.out.last HXY.out hxn hm1⟩
      clear hm1 hs1 HB1 HXY hc hkx hxn hyn hynz
      go_loopg [6] n (fun kx s6 wr => ∃ (bs : Nat) (dk : Array α), s6 = .int .i64 bs ∧ 0 < bs ∧ n - bs ≤ kx ∧ Hid (SB enc k w0 blk off dk wr ∧ B3 cf tg n bs d dk))
      case atStart => exact ⟨20, d1, rfl, by omega, by omega, S2⟩
      case round =>
        clear S2
        obtain ⟨bs, dk, rfl, hb0, hkb, S3⟩ := hrel
        by_cases hbn : bs < n
        · have hbnz : (bs : Int) < (n : Int) := by omega
          obtain ⟨b2, hb2⟩ : ∃ b2, b2 = 2 * bs := ⟨_, rfl⟩
          have r1 : IntKind.i64.wrap (2 * (bs : Int)) = (b2 : Int) := by rw [IntKind.wrap_i64]; omega
          have r2 : IntKind.i64.wrap ((bs : Int) * 2) = (b2 : Int) := by rw [IntKind.wrap_i64]; omega
          have HB2 := Lib.hid hb2
          have S4 : Hid (SB enc k w0 blk off dk wr ∧ B2 cf tg n bs 0 d dk) := ⟨S3.out.1, S3.out.2.start⟩
          have hb2n : b2 < 9000000000000 := by omega
          clear hb2 S3
          go_wp2_with fail
          go_loopg [7, 8] n (fun kx s7 s8 wr => ∃ (x y : Nat) (dk : Array α), s7 = .int .i64 x ∧ s8 = .int .i64 y ∧ y = x + b2 ∧ x ≤ n ∧ n - x ≤ kx ∧ Hid (SB enc k w0 blk off dk wr ∧ B2 cf tg n bs x d dk))
          case atStart => exact ⟨0, b2, dk, rfl, rfl, by omega, Nat.zero_le _, by omega, S4⟩
          case round =>
            clear S4
            obtain ⟨x, y, dk, rfl, rfl, hxy, hxn, hkx, S1⟩ := hrel
            obtain ⟨m, hm⟩ : ∃ m, m = x + bs := ⟨_, rfl⟩
            have r3 : IntKind.i64.wrap ((x : Int) + (bs : Int)) = (m : Int) := by rw [IntKind.wrap_i64]; omega
            by_cases hyn : y ≤ n
            · have hynz : (y : Int) ≤ (n : Int) := by omega
              have hb2' := HB2.out
              have hc := HSY.out x m y dk wr (by omega) (by omega) S1.out.2.size (by rw [hm]; exact S1.out.2.two (by omega) (by omega) hyn) S1.out.1
              obtain ⟨z, hz⟩ : ∃ z, z = y + b2 := ⟨_, rfl⟩
              have r4 : IntKind.i64.wrap ((y : Int) + (b2 : Int)) = (z : Int) := by rw [IntKind.wrap_i64]; omega
              have HXY := Lib.hid (And.intro hxy hz)
              clear hxy hz hm hb2'
              go_wp2_with (go_at_call 177; (with_reducible refine hc.mono ?_); rintro e w1 ⟨rfl, d1, hm1, hs1⟩)
              go_roundg (n - y)
              case measure => have := HXY.out.1; have := HB2.out; omega
              case rel =>
                have hxy := HXY.out.1
                have hz := HXY.out.2
                have hb2' := HB2.out
                exact ⟨y, z, d1, rfl, rfl, hz, hyn, Nat.le_refl _, hs1, by rw [hb2'] at hxy; rw [hxy] at hm1 hyn ⊢; exact S1.out.2.next hyn hm1⟩
            · have hynz : ¬ (y : Int) ≤ (n : Int) := by omega
              have hb2' := HB2.out
              by_cases hmn : m < n
              · have hmnz : (m : Int) < (n : Int) := by omega
                have hc := HSY.out x m n dk wr (by omega) hmn S1.out.2.size (by rw [hm]; exact S1.out.2.two (by omega) (by omega) (Nat.le_refl _)) S1.out.1
                have HXY := Lib.hid (show n ≤ x + 2 * bs by omega)
                clear hxy hm hb2'
                go_wp2_with (go_at_call 177; (with_reducible refine hc.mono ?_); rintro e w1 ⟨rfl, d1, hm1, hs1⟩)
                go_roundg (n - b2)
                case measure => have := HB2.out; omega
                case rel =>
                  have hb2' := HB2.out
                  refine ⟨b2, d1, rfl, by omega, Nat.le_refl _, hs1, ?_⟩
                  have := S1.out.2.last HXY.out hxn hm1
                  rwa [show bs * 2 = b2 by omega] at this
              · have hmnz : ¬ (m : Int) < (n : Int) := by omega
                have HXY := Lib.hid (show n ≤ x + bs by omega)
                clear hxy hm hb2'
                go_wp2_with fail
                go_roundg (n - b2)
                case measure => have := HB2.out; omega
                case rel =>
                  have hb2' := HB2.out
                  refine ⟨b2, dk, rfl, by omega, Nat.le_refl _, S1.out.1, ?_⟩
                  have := S1.out.2.alone HXY.out
                  rwa [show bs * 2 = b2 by omega] at this
        · have hbnz : ¬ (bs : Int) < (n : Int) := by omega
          go_wp2_with fail
          go_end0
          exact ⟨rfl, dk, S3.out.2.done (by omega), S3.out.1⟩

/-- slices.SortStableFunc at a row that lies somewhere. -/
theorem sort_calls (enc : α → List Value) (cf : α → α → Int) (tg : α → Nat) (hO : SWO (ltOf cf)) (g : Nat) (la cb : Array Value) (blk off cap : Nat) (d : Array α) (w0 w : World)
    (eg : ∀ args w, (callFunc g args).run Tryd.prog w = .ok (.enter g args) w) (hcmp : CmpB Tryd.prog g la cb enc 4 cf w0 blk off d.size)
    (S : SB enc 4 w0 blk off d w) (hA : Asc tg 0 d.size d) (hsz : d.size < 4398046511104) :
    Calls Tryd.prog 111 #[.slice (some ⟨blk, off, none⟩) d.size cap, .func (.func g) la cb] w fun e w' => e = .returned (.tuple #[]) ∧ ∃ d', Mrg cf tg 0 d.size d d' ∧ SB enc 4 w0 blk off d' w' := by
  have hc := stable_calls (P := Tryd.prog) 4 lay enc cf tg hO g la cb blk off cap d w0 w eg hcmp S hA hsz
  clear hcmp hA
  go_enter Tryd.func111, Tryd.ntmps111
  go_wp2_with (go_at_call 150; (with_reducible refine hc.mono ?_); rintro e w1 ⟨rfl, d1, hm1, hs1⟩)
  go_end0
  exact ⟨rfl, d1, hm1, hs1⟩
end Go.Proofs.YtojocffjajcdmaaDoor.ST
/- The stable order in plain Lean: each element put behind the last one that does not come after it; of rows with rising tags it is the only one in order. -/
namespace Go.Proofs.YtojocffjajcdmaaDoor.ST
open Go.Sort Go.Proofs
set_option linter.unusedVariables false
set_option linter.unusedSimpArgs false
variable {α β : Type}

/-- Into a row that lies the other way round. -/
def insR (b : α → α → Bool) (e : α) : List α → List α
  | [] => [e]
  | y :: ys => if b e y then y :: insR b e ys else e :: y :: ys
def srtR (b : α → α → Bool) (l acc : List α) : List α := l.foldl (fun acc e => insR b e acc) acc
def srt (b : α → α → Bool) (l : List α) : List α := (srtR b l []).reverse

theorem insR_perm (b : α → α → Bool) (e : α) (l : List α) : (insR b e l).Perm (e :: l) := by
  induction l with
  | nil => exact .refl _
  | cons y ys ih =>
    unfold insR
    split
    · exact (List.Perm.cons y ih).trans (List.Perm.swap e y ys)
    · exact .refl _
theorem srtR_perm (b : α → α → Bool) (l acc : List α) : (srtR b l acc).Perm (acc ++ l) := by
  induction l generalizing acc with
  | nil => unfold srtR; simp
  | cons e l ih =>
    refine (ih (insR b e acc)).trans ?_
    refine ((insR_perm b e acc).append_right l).trans ?_
    rw [List.cons_append]
    exact List.perm_middle.symm
theorem srt_perm (b : α → α → Bool) (l : List α) : (srt b l).Perm l := (List.reverse_perm _).trans (by simpa using srtR_perm b l [])
theorem srt_length (b : α → α → Bool) (l : List α) : (srt b l).length = l.length := (srt_perm b l).length_eq

theorem insR_map (f : α → β) (b : α → α → Bool) (b' : β → β → Bool) (h : ∀ x y, b' (f x) (f y) = b x y) (e : α) (l : List α) : (insR b e l).map f = insR b' (f e) (l.map f) := by
  induction l with
  | nil => rfl
  | cons y ys ih =>
    simp only [insR, List.map_cons, h]
    split
    · rw [List.map_cons, ih]
    · simp
theorem srtR_map (f : α → β) (b : α → α → Bool) (b' : β → β → Bool) (h : ∀ x y, b' (f x) (f y) = b x y) (l acc : List α) : (srtR b l acc).map f = srtR b' (l.map f) (acc.map f) := by
  induction l generalizing acc with
  | nil => rfl
  | cons e l ih =>
    show (srtR b l (insR b e acc)).map f = srtR b' (l.map f) (insR b' (f e) (acc.map f))
    rw [ih, insR_map f b b' h]
theorem srt_map (f : α → β) (b : α → α → Bool) (b' : β → β → Bool) (h : ∀ x y, b' (f x) (f y) = b x y) (l : List α) : (srt b l).map f = srt b' (l.map f) := by
  unfold srt
  rw [List.map_reverse, srtR_map f b b' h]; rfl

theorem insR_mem (b : α → α → Bool) (e z : α) (l : List α) : z ∈ insR b e l ↔ z = e ∨ z ∈ l := by rw [(insR_perm b e l).mem_iff, List.mem_cons]

/-! ### With tags there is one order -/
variable {cf : α → α → Int} {tg : α → Nat}
theorem insR_tl (hS : SWO (ltOf cf)) (e : α) (l : List α) (h : l.Pairwise (fun x y => tl cf tg y x = true)) (ht : ∀ a ∈ l, tg a < tg e) : (insR (ltOf cf) e l).Pairwise (fun x y => tl cf tg y x = true) := by
  induction l with
  | nil => exact List.pairwise_singleton _ _
  | cons y ys ih =>
    obtain ⟨h1, h2⟩ := List.pairwise_cons.1 h
    have hy := ht y List.mem_cons_self
    unfold insR
    split
    · rename_i hb
      refine List.pairwise_cons.2 ⟨fun z hz => ?_, ih h2 (fun a ha => ht a (List.mem_cons_of_mem _ ha))⟩
      rcases (insR_mem _ e z ys).1 hz with rfl | hz
      · rw [tl_hi hy]; exact hb
      · exact h1 z hz
    · rename_i hb
      have hb' : ltOf cf e y = false := by simpa using hb
      have e1 : tl cf tg y e = true := by rw [tl_lo hS hy, hb']; rfl
      refine List.pairwise_cons.2 ⟨fun z hz => ?_, h⟩
      rcases List.mem_cons.1 hz with rfl | hz
      · exact e1
      · exact tl_trans hS (h1 z hz) e1
theorem srtR_tl (hS : SWO (ltOf cf)) (l acc : List α) (h : acc.Pairwise (fun x y => tl cf tg y x = true)) (ht : ∀ a ∈ acc, ∀ e ∈ l, tg a < tg e) (hl : l.Pairwise (fun x y => tg x < tg y)) : (srtR (ltOf cf) l acc).Pairwise (fun x y => tl cf tg y x = true) := by
  induction l generalizing acc with
  | nil => exact h
  | cons e l ih =>
    obtain ⟨h1, h2⟩ := List.pairwise_cons.1 hl
    refine ih _ (insR_tl hS e acc h (fun a ha => ht a ha e List.mem_cons_self)) (fun a ha x hx => ?_) h2
    rcases (insR_mem _ e a acc).1 ha with rfl | ha
    · exact h1 x hx
    · exact ht a ha x (List.mem_cons_of_mem _ hx)
variable [Inhabited α]
theorem pairwise_of_bang {R : α → α → Prop} (d : Array α) (h : ∀ p q, p < q → q < d.size → R d[p]! d[q]!) : d.toList.Pairwise R := by
  rw [List.pairwise_iff_getElem]
  intro i j hi hj hij
  have hj' : j < d.size := by simpa using hj
  have := h i j hij hj'
  rw [getElem!_pos d i (by omega), getElem!_pos d j hj'] at this
  simpa using this
theorem srt_unique (hS : SWO (ltOf cf)) {d d' : Array α} (hA : Asc tg 0 d.size d) (hM : Mrg cf tg 0 d.size d d') : d'.toList = srt (ltOf cf) d.toList := by
  have hs : d'.size = d.size := hM.1.1
  have hp : d'.toList.Perm d.toList := by
    have h := hM.1.2.2
    have e1 : d'.extract 0 d.size = d' := by rw [← hs]; simp
    have e2 : d.extract 0 d.size = d := by simp
    rwa [e1, e2] at h
  have p1 : d'.toList.Pairwise (fun x y => tl cf tg x y = true) := pairwise_of_bang d' (fun p q hpq hq => hM.2 p q (Nat.zero_le _) hpq (by omega))
  have p2 : (srt (ltOf cf) d.toList).Pairwise (fun x y => tl cf tg x y = true) := by
    unfold srt
    rw [List.pairwise_reverse]
    exact srtR_tl hS d.toList [] List.Pairwise.nil (fun a ha => by cases ha) (pairwise_of_bang d (fun p q hpq hq => hA p q (Nat.zero_le _) hpq hq))
  refine List.Perm.eq_of_pairwise (le := fun x y => tl cf tg x y = true) (fun x y _ _ h1 h2 => ?_) p1 p2 (hp.trans (srt_perm _ _).symm)
  have := tl_asymm hS h1
  rw [this] at h2; cases h2
end Go.Proofs.YtojocffjajcdmaaDoor.ST
