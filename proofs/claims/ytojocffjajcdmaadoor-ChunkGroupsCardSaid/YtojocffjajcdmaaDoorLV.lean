/- icehouseref03.Sort: walked (turned from this repository's text on the same function of another seat). -/
import Derived.Test.YtojocffjajcdmaaDoorLT
import Derived.Test.YtojocffjajcdmaaDoorLU
namespace Go.Proofs.YtojocffjajcdmaaDoor.RS
open Go.RowKit Go.Proofs.YtojocffjajcdmaaDoor Go.Proofs.YtojocffjajcdmaaDoorW.PrintWords Go.Proofs.YtojocffjajcdmaaDoorW.PrintLast Go.Proofs.YtojocffjajcdmaaDoorW.PrintMore PChunkAll
set_option linter.unusedVariables false
set_option linter.unusedSimpArgs false

def bef (a b : Ent) : Bool := beforeE a.s a.t b.s b.t
def posF (x : Ent) (out : List Ent) : Nat → Nat
  | 0 => 0
  | k + 1 => if bef x (out.getD k default) then posF x out k else k + 1
theorem posF_le (x : Ent) (out : List Ent) : ∀ k, posF x out k ≤ k
  | 0 => Nat.le_refl _
  | k + 1 => by
    rw [posF]
    split
    · exact Nat.le_succ_of_le (posF_le x out k)
    · exact Nat.le_refl _
def insE (out : List Ent) (x : Ent) : List Ent := out.take (posF x out out.length) ++ x :: out.drop (posF x out out.length)
def sortR (es : List Ent) : List Ent := es.foldl insE []
theorem insE_length (out : List Ent) (x : Ent) : (insE out x).length = out.length + 1 := by
  have := posF_le x out out.length
  simp [insE]; omega
theorem foldl_length (es : List Ent) : ∀ out, (es.foldl insE out).length = out.length + es.length := by
  induction es with
  | nil => intro out; simp
  | cons a l ih => intro out; rw [List.foldl_cons, ih, insE_length]; simp; omega
theorem sortR_length (es : List Ent) : (sortR es).length = es.length := by simp [sortR, foldl_length]
theorem sortR_succ (es : List Ent) (k : Nat) (h : k < es.length) : sortR (es.take (k + 1)) = insE (sortR (es.take k)) es[k] := by
  rw [sortR, List.take_succ_eq_append_getElem h, List.foldl_append]; rfl

theorem ins_own {W : World} {base k m : Nat} {v : Value} {out : List Ent} {x : Ent} (hl : out.length = k) (hp : posF x out k = m) (hm : m ≤ k)
    (h : W.ownsRow base 33 4 v (0 + m + 1 + (k - m)) ((([] ++ ecells (out.take m)) ++ [.int .i64 x.s, .int .i64 x.t, .slice x.A x.n x.c, .string x.x]) ++ ecells (out.drop m))) : W.ownsRow base 33 4 v (k + 1) (ecells (insE out x)) := by
  have e : ecells (insE out x) = (([] ++ ecells (out.take m)) ++ [.int .i64 x.s, .int .i64 x.t, .slice x.A x.n x.c, .string x.x]) ++ ecells (out.drop m) := by
    rw [insE, hl, hp]
    simp [ecells]
  rw [e]
  have e2 : 0 + m + 1 + (k - m) = k + 1 := by omega
  rw [e2] at h
  exact h
theorem own_addr {w : World} {base n c m size : Nat} {ad : Addr} {e : TypeId} {xs : List Value} (h : w.ownsRow base e size (.slice (some ad) n c) m xs) : ∃ g, ad = ⟨g, 0, none⟩ := by
  rcases h.2 with ⟨hv, h0⟩ | ⟨g, cap, cur, hv, _⟩
  · cases hv
  · injection hv with h1
    injection h1 with h1
    exact ⟨g, h1⟩
def SortRel (w : World) (es : List Ent) (v4 v3 : Value) (wr : World) : Prop :=
  ∃ k : Nat, v4 = .int .i64 k ∧ k ≤ es.length ∧ wr.ownsRow w.heap.size 33 4 v3 k (ecells (sortR (es.take k))) ∧ Below w.heap.size w wr
def RSortPost (w : World) (es : List Ent) (r : Ending) (w' : World) : Prop :=
  ∃ v, r = .returned v ∧ w'.ownsRow w.heap.size 33 4 v es.length (ecells (sortR es)) ∧ Below w.heap.size w w'

set_option maxHeartbeats 2000000 in
theorem rsort50 (A : Option Addr) (c : Nat) (es : List Ent) (w : World) (hr : RowCells w A (ecells es)) (hs : es.length ≤ 2513169434916) :
    Calls Tryd.prog 50 #[.slice A es.length c] w (RSortPost w es) := by
  obtain ⟨i0, hi0, hz0, hz1, hz2⟩ := info_parts info33
  go_enter Tryd.func50, Tryd.ntmps50
  go_wp2
  go_loopw [4, 3] (fun v4 v3 wr => SortRel w es v4 v3 wr) (fun v4 _ _ => es.length - (intOf v4).toNat)
  case atStart => exact ⟨0, rfl, Nat.zero_le _, World.ownsRow_nil _ _ _ _, Below.refl _ _⟩
  case round =>
    obtain ⟨k, rfl, hk, ho, hb⟩ := hrel
    obtain ⟨Ao, co, rfl⟩ := own_sl ho
    by_cases hlt : k < es.length
    · obtain ⟨b, o, rfl, hc⟩ := hr (by rw [ecells_length]; omega)
      have HC := Lib.hid (fun w' (hb' : Below w.heap.size w w') => entCells_of (fun j u hu => keepc hb' (hc j u hu)) k hlt)
      have HE := Lib.hid (sortR_succ es k hlt)
      have HL : Hid ((sortR (es.take k)).length = k) := Lib.hid (by rw [sortR_length, List.length_take]; omega)
      have hi1 : (k : Int) < (es.length : Int) := by omega
      have HO := Lib.hid ho
      clear hc hr ho
      generalize sortR (es.take k) = out at *
      generalize es[k] = x at *
      obtain ⟨wo, rfl⟩ : ∃ wo : World, wo = wr := ⟨_, rfl⟩
      go_wp2_with fail
      go_loopw [5] (fun v5 wi => ∃ j : Nat, v5 = .int .i64 j ∧ j ≤ k ∧ posF x out k = posF x out j ∧ Below wo.heap.size wo wi) (fun v5 _ => (intOf v5).toNat)
      case atStart => exact ⟨k, rfl, Nat.le_refl _, rfl, Below.refl _ _⟩
      case round =>
        obtain ⟨j, rfl, hj, hp, hbi⟩ := hrel
        have HP := Lib.hid hp; clear hp
        have hbw := thenB hb hbi
        obtain ⟨p0, p1, p2, p3⟩ := HC.out wr hbw
        rcases Nat.eq_zero_or_pos j with h0 | hj0
        · subst h0
          go_wp2_with fail
          go_region
          obtain ⟨p, hp0, hpz⟩ : ∃ p : Nat, ((0 : Nat) : Int) = (p : Int) ∧ p = 0 := ⟨0, rfl, rfl⟩
          rw [hp0]
          have HFP : Hid (posF x out k = p) := Lib.hid (by rw [HP.out, hpz]; rfl)
          have hm4 : p ≤ k := by omega
          have hcap := own_cap HO.out
          have hm5 : p ≤ co := by omega
          have hb22 : Below wr.heap.size wr wr.drew := (Below.refl _ _).drew
          have hbw2 : Below w.heap.size w wr.drew := hbw.drew
          have hbi2 : Below wo.heap.size wo wr.drew := hbi.drew
          have q0 := HC.out wr.drew hbw2
          have HO2 := Lib.hid (ownsRow_keepF HO.out (KeepF.of_below hbi (fun _ => False)) (fun _ _ h => h))
          clear p0 p1 p2 p3 hp0
          generalize wr.drew = w2 at *
          obtain ⟨p0, p1, p2, p3⟩ := q0
          have hm1 : (p : Int) ≤ (k : Int) := by omega
          have hm2 : (p : Int) ≤ (co : Int) := by omega
          rcases Ao with _ | ad
          · have hc0 : co = 0 := own_nilcap HO2.out rfl
            have hout : out = [] := List.eq_nil_of_length_eq_zero (by have := HL.out; omega)
            have hco1 : co - p = 0 := by omega
            have hco2 : co = p := by omega
            have hdn : out.drop p = [] := by rw [hout]; simp
            have HCO := Lib.hid hc0
            have HT1 : Hid (∀ W, Below w2.heap.size w2 W → RowCells W none (ecells (out.take p))) := Lib.hid (fun W _ hp => by rw [hout] at hp; simp [ecells] at hp)
            have HT3 : Hid (∀ W, Below w2.heap.size w2 W → RowCells W none (ecells (out.drop p))) := Lib.hid (fun W _ hp => by rw [hdn] at hp; simp [ecells] at hp)
            clear hc0 hout
            have HZ := Lib.hid hpz
            clear hpz
            have HSS : ∀ w', Below w2.heap.size w2 w' → (w'.cell? ⟨b, o + k * 4, none⟩ = some (.int .i64 x.s) ∧ w'.cell? ⟨b, o + k * 4 + 1, none⟩ = some (.int .i64 x.t) ∧ w'.cell? ⟨b, o + k * 4 + 2, none⟩ = some (.slice x.A x.n x.c) ∧ w'.cell? ⟨b, o + k * 4 + 3, none⟩ = some (.string x.x) ∧ Below w2.heap.size w2 w') :=
              fun w' hK => ⟨keepc hK p0, keepc hK p1, keepc hK p2, keepc hK p3, hK⟩
            all_goals go_wp2_with fail
            all_goals go_region_held_law (fun w' => w'.cell? ⟨b, o + k * 4, none⟩ = some (.int .i64 x.s) ∧ w'.cell? ⟨b, o + k * 4 + 1, none⟩ = some (.int .i64 x.t) ∧ w'.cell? ⟨b, o + k * 4 + 2, none⟩ = some (.slice x.A x.n x.c) ∧ w'.cell? ⟨b, o + k * 4 + 3, none⟩ = some (.string x.x) ∧ Below w2.heap.size w2 w')
              (first
                | exact HSS _ (Below.refl _ _)
                | exact HSS _ (Below.refl _ _).drew
                | exact HSS _ hB8 | exact HSS _ hB7 | exact HSS _ hB6 | exact HSS _ hB7.drew | exact HSS _ hB6.drew
                | exact HSS _ ((Below.refl _ _).alloc (Nat.le_refl _) _).drew
                | exact HSS _ (((Below.refl _ _).alloc (Nat.le_refl _) _).alloc (by simp) _).drew
                | exact HSS _ (hB6.alloc hB6.size _).drew
                | exact HSS _ (hB6.alloc hB6.size _))
              (first
                | (refine step_append_row _ rfl (.tmp 30) (.tmp 33) 22 rfl w2.heap.size 33 i0 _ 4 56 Tryd.underlying22 hi0 hz0 hz1 hz2 rfl (by decide) _ 0 [] rfl
                    (by first | exact (own_made' (Nat.le_refl _) rfl).drew2 | exact ((own_made' (Nat.le_refl _) rfl).alloc _).drew2 | exact (own_made' (by simp) (by simp)).drew2)
                    _ _ _ (ecells (out.take p)) rfl (by intro _; have := HCO.out; omega) (by omega) (by rw [ecells_length, List.length_take]; have := HL.out; omega)
                    (by first | exact HT1.out _ ((Below.refl _ _).alloc (Nat.le_refl _) _).drew | exact HT1.out _ (((Below.refl _ _).alloc (Nat.le_refl _) _).alloc (by simp) _).drew)
                    (ecells_one _) (by unfold maxLen; omega) (by omega) (by simp only [World.size_alloc, World.size_drew]; omega) ?_
                   intro v6 w6 hown6 hgrow6
                   have hB6 : Below w2.heap.size w2 w6 := by
                     first
                       | exact ((Below.refl _ _).alloc (Nat.le_refl _) _).drew.grown hgrow6 (by simp only [World.size_alloc, World.size_drew]; omega) (by intro q hq; simp [Value.ownBlock, Act.eval, Act.put] at hq; omega)
                       | exact (((Below.refl _ _).alloc (Nat.le_refl _) _).alloc (by simp) _).drew.grown hgrow6 (by simp only [World.size_alloc, World.size_drew]; omega) (by intro q hq; simp [Value.ownBlock, Act.eval, Act.put] at hq; omega))
                | (refine step_append_row _ rfl (.tmp 34) (.tmp 39) 22 rfl w2.heap.size 33 i0 _ 4 56 Tryd.underlying22 hi0 hz0 hz1 hz2 rfl (by decide) _ (0 + p) ([] ++ ecells (out.take p)) rfl
                    (by first | exact hown6 | exact hown6.alloc _ | exact (hown6.alloc _).drew2 | exact hown6.drew2)
                    _ 1 1 [.int .i64 x.s, .int .i64 x.t, .slice x.A x.n x.c, .string x.x] rfl (by intro e; cases e) (Nat.le_refl _) rfl
                    (by first
                      | exact rowCells_new (cs := #[.int .i64 x.s, .int .i64 x.t, .slice x.A x.n x.c, .string x.x]) rfl
                      | exact rowCells_grown (cs := #[.int .i64 x.s, .int .i64 x.t, .slice x.A x.n x.c, .string x.x]) (t := 33) ((Blk.new _ _ _ _ (by simp)).drew) hgrow6 (by simp [Value.ownBlock, Act.eval, Act.put])
                      | exact rowCells_grown (cs := #[.int .i64 x.s, .int .i64 x.t, .slice x.A x.n x.c, .string x.x]) (t := 33) (((Blk.new _ _ _ _ (by simp)).alloc _).drew) hgrow6 (by simp [Value.ownBlock, Act.eval, Act.put]))
                    (by simp [Value.oneCell']) (by unfold maxLen; omega) (by omega) (by have := hB6.size; simp <;> omega) ?_
                   intro v7 w7 hown7 hgrow7
                   have hB7 : Below w2.heap.size w2 w7 := by
                     first
                       | exact hB6.grown hgrow7 hB6.size (fun q hq => (hown6.lt q hq).1)
                       | exact (hB6.alloc hB6.size _).grown hgrow7 (by have := hB6.size; simp; omega) (fun q hq => (hown6.lt q hq).1))
                | (refine step_append_row _ rfl (.tmp 40) (.tmp 43) 22 rfl w2.heap.size 33 i0 _ 4 56 Tryd.underlying22 hi0 hz0 hz1 hz2 rfl (by decide) _ (0 + p + 1) _ rfl
                    hown7 _ _ _ (ecells (out.drop p)) rfl (by intro _; have := HCO.out; omega) (by omega) (by rw [ecells_length, List.length_drop, HL.out])
                    (by first | exact HT3.out _ hB7 | (have := HT3.out _ hB7; simpa using this) | (exact fun hp => by rw [hdn] at hp; simp [ecells] at hp)) (ecells_one _) (by unfold maxLen; omega) (by omega) hB7.size ?_
                   intro v8 w8 hown8 hgrow8
                   have hB8 : Below w2.heap.size w2 w8 := hB7.grown hgrow8 hB7.size (fun q hq => (hown7.lt q hq).1)))
            all_goals
              have hfin := ins_own HL.out HFP.out hm4 hown8
              have hbf := hbw2.trans (hB8.mono hbw2.size)
              have hfin2 := Lib.hid (ownsRow_lower hfin hbw2.size)
              clear hown8 hown7 hown6 hgrow8 hgrow7 hgrow6 hB6 hB7 hB8 hfin
              go_wp2_with fail
              go_roundw
              case rel => exact ⟨k + 1, by go_num, by omega, by rw [HE.out]; exact hfin2.out, hbf⟩
              case measure => simp [intOf]; omega
          · obtain ⟨g, eg⟩ : ∃ g, ad = ⟨g, 0, none⟩ := own_addr HO2.out
            subst eg
            have HZ := Lib.hid hpz
            clear hpz
            have HSS : ∀ w', Below w2.heap.size w2 w' → (w'.cell? ⟨b, o + k * 4, none⟩ = some (.int .i64 x.s) ∧ w'.cell? ⟨b, o + k * 4 + 1, none⟩ = some (.int .i64 x.t) ∧ w'.cell? ⟨b, o + k * 4 + 2, none⟩ = some (.slice x.A x.n x.c) ∧ w'.cell? ⟨b, o + k * 4 + 3, none⟩ = some (.string x.x) ∧ Below w2.heap.size w2 w') :=
              fun w' hK => ⟨keepc hK p0, keepc hK p1, keepc hK p2, keepc hK p3, hK⟩
            have HO3 := Lib.hid (ownsRow_keepF HO2.out (KeepF.of_below hb22 (fun _ => False)) (fun _ _ h => h))
            have HT1 := Lib.hid (fun W (hW : Below w2.heap.size w2 W) => ((own_rowCells HO3.out).take p).below hW)
            have HT3 := Lib.hid (fun W (hW : Below w2.heap.size w2 W) => (rowCells_drop (own_rowCells HO3.out) p).below hW)
            have hdd : (co - p = 0 ∧ co = p ∧ out.drop p = []) ∨ (¬ (co - p = 0) ∧ ¬ (co = p)) := by
              have := HL.out
              by_cases hco : p = co
              · exact .inl ⟨by omega, by omega, List.drop_eq_nil_of_le (by omega)⟩
              · exact .inr ⟨by omega, by omega⟩
            rcases hdd with ⟨hco1, hco2, hdn⟩ | ⟨hco1, hco2⟩
            all_goals go_wp2_with fail
            all_goals go_region_held_law (fun w' => w'.cell? ⟨b, o + k * 4, none⟩ = some (.int .i64 x.s) ∧ w'.cell? ⟨b, o + k * 4 + 1, none⟩ = some (.int .i64 x.t) ∧ w'.cell? ⟨b, o + k * 4 + 2, none⟩ = some (.slice x.A x.n x.c) ∧ w'.cell? ⟨b, o + k * 4 + 3, none⟩ = some (.string x.x) ∧ Below w2.heap.size w2 w')
              (first
                | exact HSS _ (Below.refl _ _)
                | exact HSS _ (Below.refl _ _).drew
                | exact HSS _ hB8 | exact HSS _ hB7 | exact HSS _ hB6 | exact HSS _ hB7.drew | exact HSS _ hB6.drew
                | exact HSS _ ((Below.refl _ _).alloc (Nat.le_refl _) _).drew
                | exact HSS _ (((Below.refl _ _).alloc (Nat.le_refl _) _).alloc (by simp) _).drew
                | exact HSS _ (hB6.alloc hB6.size _).drew
                | exact HSS _ (hB6.alloc hB6.size _))
              (first
                | (refine step_append_row _ rfl (.tmp 30) (.tmp 33) 22 rfl w2.heap.size 33 i0 _ 4 56 Tryd.underlying22 hi0 hz0 hz1 hz2 rfl (by decide) _ 0 [] rfl
                    (by first | exact (own_made' (Nat.le_refl _) rfl).drew2 | exact ((own_made' (Nat.le_refl _) rfl).alloc _).drew2 | exact (own_made' (by simp) (by simp)).drew2)
                    _ _ _ (ecells (out.take p)) rfl (by intro e; cases e) (by omega) (by rw [ecells_length, List.length_take]; have := HL.out; omega)
                    (by first | exact HT1.out _ ((Below.refl _ _).alloc (Nat.le_refl _) _).drew | exact HT1.out _ (((Below.refl _ _).alloc (Nat.le_refl _) _).alloc (by simp) _).drew)
                    (ecells_one _) (by unfold maxLen; omega) (by omega) (by simp only [World.size_alloc, World.size_drew]; omega) ?_
                   intro v6 w6 hown6 hgrow6
                   have hB6 : Below w2.heap.size w2 w6 := by
                     first
                       | exact ((Below.refl _ _).alloc (Nat.le_refl _) _).drew.grown hgrow6 (by simp only [World.size_alloc, World.size_drew]; omega) (by intro q hq; simp [Value.ownBlock, Act.eval, Act.put] at hq; omega)
                       | exact (((Below.refl _ _).alloc (Nat.le_refl _) _).alloc (by simp) _).drew.grown hgrow6 (by simp only [World.size_alloc, World.size_drew]; omega) (by intro q hq; simp [Value.ownBlock, Act.eval, Act.put] at hq; omega))
                | (refine step_append_row _ rfl (.tmp 34) (.tmp 39) 22 rfl w2.heap.size 33 i0 _ 4 56 Tryd.underlying22 hi0 hz0 hz1 hz2 rfl (by decide) _ (0 + p) ([] ++ ecells (out.take p)) rfl
                    (by first | exact hown6 | exact hown6.alloc _ | exact (hown6.alloc _).drew2 | exact hown6.drew2)
                    _ 1 1 [.int .i64 x.s, .int .i64 x.t, .slice x.A x.n x.c, .string x.x] rfl (by intro e; cases e) (Nat.le_refl _) rfl
                    (by first
                      | exact rowCells_new (cs := #[.int .i64 x.s, .int .i64 x.t, .slice x.A x.n x.c, .string x.x]) rfl
                      | exact rowCells_grown (cs := #[.int .i64 x.s, .int .i64 x.t, .slice x.A x.n x.c, .string x.x]) (t := 33) ((Blk.new _ _ _ _ (by simp)).drew) hgrow6 (by simp [Value.ownBlock, Act.eval, Act.put])
                      | exact rowCells_grown (cs := #[.int .i64 x.s, .int .i64 x.t, .slice x.A x.n x.c, .string x.x]) (t := 33) (((Blk.new _ _ _ _ (by simp)).alloc _).drew) hgrow6 (by simp [Value.ownBlock, Act.eval, Act.put]))
                    (by simp [Value.oneCell']) (by unfold maxLen; omega) (by omega) (by have := hB6.size; simp <;> omega) ?_
                   intro v7 w7 hown7 hgrow7
                   have hB7 : Below w2.heap.size w2 w7 := by
                     first
                       | exact hB6.grown hgrow7 hB6.size (fun q hq => (hown6.lt q hq).1)
                       | exact (hB6.alloc hB6.size _).grown hgrow7 (by have := hB6.size; simp; omega) (fun q hq => (hown6.lt q hq).1))
                | (refine step_append_row _ rfl (.tmp 40) (.tmp 43) 22 rfl w2.heap.size 33 i0 _ 4 56 Tryd.underlying22 hi0 hz0 hz1 hz2 rfl (by decide) _ (0 + p + 1) _ rfl
                    hown7 _ _ _ (ecells (out.drop p)) rfl (by intro e; cases e) (by omega) (by rw [ecells_length, List.length_drop, HL.out])
                    (by first | exact HT3.out _ hB7 | (have := HT3.out _ hB7; simpa using this) | (exact fun hp => by rw [hdn] at hp; simp [ecells] at hp)) (ecells_one _) (by unfold maxLen; omega) (by omega) hB7.size ?_
                   intro v8 w8 hown8 hgrow8
                   have hB8 : Below w2.heap.size w2 w8 := hB7.grown hgrow8 hB7.size (fun q hq => (hown7.lt q hq).1)))
            all_goals
              have hfin := ins_own HL.out HFP.out hm4 hown8
              have hbf := hbw2.trans (hB8.mono hbw2.size)
              have hfin2 := Lib.hid (ownsRow_lower hfin hbw2.size)
              clear hown8 hown7 hown6 hgrow8 hgrow7 hgrow6 hB6 hB7 hB8 hfin
              go_wp2_with fail
              go_roundw
              case rel => exact ⟨k + 1, by go_num, by omega, by rw [HE.out]; exact hfin2.out, hbf⟩
              case measure => simp [intOf]; omega
        · obtain ⟨m, rfl⟩ : ∃ m, j = m + 1 := ⟨j - 1, by omega⟩
          have hcast : ((m + 1 : Nat) : Int) = (m : Int) + 1 := by omega
          rw [hcast]
          clear hcast
          have HO2 := Lib.hid (ownsRow_keepF HO.out (KeepF.of_below hbi (fun _ => False)) (fun _ _ h => h))
          obtain ⟨g, rfl, _⟩ := own_at HO2.out (by omega)
          have hmo : m < out.length := by have := HL.out; omega
          obtain ⟨q0, q1, q2, q3⟩ := own_ecells HO2.out m hmo
          have HX : Hid (posF x out (m + 1) = if bef x out[m] then posF x out m else m + 1) := Lib.hid (by
            rw [posF]; simp [hmo])
          have hjk : (m : Int) < (k : Int) := by omega
          have hjp : (0 : Int) < (m : Int) + 1 := by omega
          have hw1 : IntKind.i64.wrap ((m : Int) + 1 - 1) = (m : Int) := by rw [wrap_in _ (by omega) (by omega)]; omega
          have hw2 : IntKind.i64.wrap (m : Int) = (m : Int) := by rw [wrap_in _ (by omega) (by omega)]
          generalize hy : out[m] = y at *
          have HY := Lib.hid hy; clear hy
          go_wp2_with fail
          go_region_held3 (fun w' => w'.cell? ⟨b, o + k * 4, none⟩ = some (.int .i64 x.s) ∧ w'.cell? ⟨b, o + k * 4 + 1, none⟩ = some (.int .i64 x.t) ∧ w'.cell? ⟨b, o + k * 4 + 2, none⟩ = some (.slice x.A x.n x.c) ∧ w'.cell? ⟨b, o + k * 4 + 3, none⟩ = some (.string x.x)
              ∧ w'.cell? ⟨g, m * 4, none⟩ = some (.int .i64 y.s) ∧ w'.cell? ⟨g, m * 4 + 1, none⟩ = some (.int .i64 y.t) ∧ w'.cell? ⟨g, m * 4 + 2, none⟩ = some (.slice y.A y.n y.c) ∧ w'.cell? ⟨g, m * 4 + 3, none⟩ = some (.string y.x))
            (first | go_keep | (exact ⟨keepc hb2 p0, keepc hb2 p1, keepc hb2 p2, keepc hb2 p3, keepc hb2 q0, keepc hb2 q1, keepc hb2 q2, keepc hb2 q3⟩))
            (first | (go_at_call 52; refine (rbefore_any _ _ _ _ _ _ _ _ _).mono ?_; rintro e w2 ⟨rfl, hb2⟩))
          all_goals
            have hbw2 := thenB hbw (undrew hb2)
            have hbi2 := thenB hbi (undrew hb2)
            have hb22 := undrew hb2
            clear p0 p1 p2 p3 q0 q1 q2 q3 hb2 hw1 hw2
            cases hf : beforeE x.s x.t y.s y.t with
            | true =>
              have HF := Lib.hid hf; clear hf
              go_wp2_with fail
              go_roundw
              case rel => exact ⟨m, by go_num, by omega, by rw [HP.out, HX.out, if_pos (show bef x y = true from HF.out)], hbi2⟩
              case measure => simp [intOf]
            | false =>
              have HF : Hid (posF x out k = m + 1) := Lib.hid (by rw [HP.out, HX.out, if_neg (by rw [show bef x y = beforeE x.s x.t y.s y.t from rfl, hf]; decide)])
              clear hf
              have hcap := own_cap HO2.out
              obtain ⟨p0, p1, p2, p3⟩ := HC.out w2 hbw2
              obtain ⟨p, hpm⟩ : ∃ p : Nat, p = m + 1 := ⟨_, rfl⟩
              have hpi : (m : Int) + 1 = (p : Int) := by omega
              rw [hpi]
              have HFP : Hid (posF x out k = p) := Lib.hid (by rw [HF.out, hpm])
              have hm4 : p ≤ k := by omega
              have hm5 : p ≤ co := by omega
              clear hpi hpm
              have hm1 : (p : Int) ≤ (k : Int) := by omega
              have hm2 : (p : Int) ≤ (co : Int) := by omega
              have HSS : ∀ w', Below w2.heap.size w2 w' → (w'.cell? ⟨b, o + k * 4, none⟩ = some (.int .i64 x.s) ∧ w'.cell? ⟨b, o + k * 4 + 1, none⟩ = some (.int .i64 x.t) ∧ w'.cell? ⟨b, o + k * 4 + 2, none⟩ = some (.slice x.A x.n x.c) ∧ w'.cell? ⟨b, o + k * 4 + 3, none⟩ = some (.string x.x) ∧ Below w2.heap.size w2 w') :=
                fun w' hK => ⟨keepc hK p0, keepc hK p1, keepc hK p2, keepc hK p3, hK⟩
              have HO3 := Lib.hid (ownsRow_keepF HO2.out (KeepF.of_below hb22 (fun _ => False)) (fun _ _ h => h))
              have HT1 := Lib.hid (fun W (hW : Below w2.heap.size w2 W) => ((own_rowCells HO3.out).take p).below hW)
              have HT3 := Lib.hid (fun W (hW : Below w2.heap.size w2 W) => (rowCells_drop (own_rowCells HO3.out) p).below hW)
              have hdd : (co - p = 0 ∧ co = p ∧ out.drop p = []) ∨ (¬ (co - p = 0) ∧ ¬ (co = p)) := by
                have := HL.out
                by_cases hco : p = co
                · exact .inl ⟨by omega, by omega, List.drop_eq_nil_of_le (by omega)⟩
                · exact .inr ⟨by omega, by omega⟩
              rcases hdd with ⟨hco1, hco2, hdn⟩ | ⟨hco1, hco2⟩
              all_goals go_wp2_with fail
              all_goals go_region_held_law (fun w' => w'.cell? ⟨b, o + k * 4, none⟩ = some (.int .i64 x.s) ∧ w'.cell? ⟨b, o + k * 4 + 1, none⟩ = some (.int .i64 x.t) ∧ w'.cell? ⟨b, o + k * 4 + 2, none⟩ = some (.slice x.A x.n x.c) ∧ w'.cell? ⟨b, o + k * 4 + 3, none⟩ = some (.string x.x) ∧ Below w2.heap.size w2 w')
                (first
                  | exact HSS _ (Below.refl _ _)
                  | exact HSS _ (Below.refl _ _).drew
                  | exact HSS _ hB8 | exact HSS _ hB7 | exact HSS _ hB6 | exact HSS _ hB7.drew | exact HSS _ hB6.drew
                  | exact HSS _ ((Below.refl _ _).alloc (Nat.le_refl _) _).drew
                  | exact HSS _ (((Below.refl _ _).alloc (Nat.le_refl _) _).alloc (by simp) _).drew
                  | exact HSS _ (hB6.alloc hB6.size _).drew
                  | exact HSS _ (hB6.alloc hB6.size _))
                (first
                  | (refine step_append_row _ rfl (.tmp 30) (.tmp 33) 22 rfl w2.heap.size 33 i0 _ 4 56 Tryd.underlying22 hi0 hz0 hz1 hz2 rfl (by decide) _ 0 [] rfl
                      (by first | exact (own_made' (Nat.le_refl _) rfl).drew2 | exact ((own_made' (Nat.le_refl _) rfl).alloc _).drew2 | exact (own_made' (by simp) (by simp)).drew2)
                      _ _ _ (ecells (out.take p)) rfl (by intro e; cases e) (by omega) (by rw [ecells_length, List.length_take]; have := HL.out; omega)
                      (by first | exact HT1.out _ ((Below.refl _ _).alloc (Nat.le_refl _) _).drew | exact HT1.out _ (((Below.refl _ _).alloc (Nat.le_refl _) _).alloc (by simp) _).drew)
                      (ecells_one _) (by unfold maxLen; omega) (by omega) (by simp only [World.size_alloc, World.size_drew]; omega) ?_
                     intro v6 w6 hown6 hgrow6
                     have hB6 : Below w2.heap.size w2 w6 := by
                       first
                         | exact ((Below.refl _ _).alloc (Nat.le_refl _) _).drew.grown hgrow6 (by simp only [World.size_alloc, World.size_drew]; omega) (by intro q hq; simp [Value.ownBlock, Act.eval, Act.put] at hq; omega)
                         | exact (((Below.refl _ _).alloc (Nat.le_refl _) _).alloc (by simp) _).drew.grown hgrow6 (by simp only [World.size_alloc, World.size_drew]; omega) (by intro q hq; simp [Value.ownBlock, Act.eval, Act.put] at hq; omega))
                  | (refine step_append_row _ rfl (.tmp 34) (.tmp 39) 22 rfl w2.heap.size 33 i0 _ 4 56 Tryd.underlying22 hi0 hz0 hz1 hz2 rfl (by decide) _ (0 + p) ([] ++ ecells (out.take p)) rfl
                      (by first | exact hown6 | exact hown6.alloc _ | exact (hown6.alloc _).drew2 | exact hown6.drew2)
                      _ 1 1 [.int .i64 x.s, .int .i64 x.t, .slice x.A x.n x.c, .string x.x] rfl (by intro e; cases e) (Nat.le_refl _) rfl
                      (by first
                        | exact rowCells_new (cs := #[.int .i64 x.s, .int .i64 x.t, .slice x.A x.n x.c, .string x.x]) rfl
                        | exact rowCells_grown (cs := #[.int .i64 x.s, .int .i64 x.t, .slice x.A x.n x.c, .string x.x]) (t := 33) ((Blk.new _ _ _ _ (by simp)).drew) hgrow6 (by simp [Value.ownBlock, Act.eval, Act.put])
                        | exact rowCells_grown (cs := #[.int .i64 x.s, .int .i64 x.t, .slice x.A x.n x.c, .string x.x]) (t := 33) (((Blk.new _ _ _ _ (by simp)).alloc _).drew) hgrow6 (by simp [Value.ownBlock, Act.eval, Act.put]))
                      (by simp [Value.oneCell']) (by unfold maxLen; omega) (by omega) (by have := hB6.size; simp <;> omega) ?_
                     intro v7 w7 hown7 hgrow7
                     have hB7 : Below w2.heap.size w2 w7 := by
                       first
                         | exact hB6.grown hgrow7 hB6.size (fun q hq => (hown6.lt q hq).1)
                         | exact (hB6.alloc hB6.size _).grown hgrow7 (by have := hB6.size; simp; omega) (fun q hq => (hown6.lt q hq).1))
                  | (refine step_append_row _ rfl (.tmp 40) (.tmp 43) 22 rfl w2.heap.size 33 i0 _ 4 56 Tryd.underlying22 hi0 hz0 hz1 hz2 rfl (by decide) _ (0 + p + 1) _ rfl
                      hown7 _ _ _ (ecells (out.drop p)) rfl (by intro e; cases e) (by omega) (by rw [ecells_length, List.length_drop, HL.out])
                      (by first | exact HT3.out _ hB7 | (have := HT3.out _ hB7; simpa using this) | (exact fun hp => by rw [hdn] at hp; simp [ecells] at hp)) (ecells_one _) (by unfold maxLen; omega) (by omega) hB7.size ?_
                     intro v8 w8 hown8 hgrow8
                     have hB8 : Below w2.heap.size w2 w8 := hB7.grown hgrow8 hB7.size (fun q hq => (hown7.lt q hq).1)))
              all_goals
                have hfin := ins_own HL.out HFP.out hm4 hown8
                have hbf := hbw2.trans (hB8.mono hbw2.size)
                have hfin2 := Lib.hid (ownsRow_lower hfin hbw2.size)
                clear hown8 hown7 hown6 hgrow8 hgrow7 hgrow6 hB6 hB7 hB8 hfin
                go_wp2_with fail
                go_roundw
                case rel => exact ⟨k + 1, by go_num, by omega, by rw [HE.out]; exact hfin2.out, hbf⟩
                case measure => simp [intOf]; omega
    · obtain rfl : k = es.length := by omega
      rw [List.take_of_length_le (Nat.le_refl _)] at ho
      have HO := Lib.hid ho; clear ho
      go_wp2
      go_ret
      exact ⟨_, rfl, HO.out, hb⟩
end Go.Proofs.YtojocffjajcdmaaDoor.RS
/- RecordSorts: the law walked. -/
namespace Go.Proofs.YtojocffjajcdmaaDoor
open Go.RowKit Go.Proofs.YtojocffjajcdmaaDoorW.PrintWords Go.Proofs.YtojocffjajcdmaaDoorW.PrintLast Go.Proofs.YtojocffjajcdmaaDoorW.PrintMore PChunkAll
set_option linter.unusedVariables false
set_option linter.unusedSimpArgs false

theorem insE_eq (x : RS.Ent) (out : List RS.Ent) : ∀ k, k ≤ out.length → (ST.insR RS.bef x (out.take k).reverse).reverse = (out.take k).take (RS.posF x out k) ++ x :: (out.take k).drop (RS.posF x out k) := by
  intro k
  induction k with
  | zero => intro _; simp [ST.insR, RS.posF]
  | succ k ih =>
    intro hk
    have e : out.take (k + 1) = out.take k ++ [out[k]] := List.take_succ_eq_append_getElem (by omega)
    have eg : out.getD k default = out[k] := by simp [show k < out.length by omega]
    have hle := RS.posF_le x out k
    have hl : (out.take k).length = k := by rw [List.length_take]; omega
    rw [e, List.reverse_append, List.reverse_cons, List.reverse_nil, List.nil_append, List.singleton_append, RS.posF, eg]
    unfold ST.insR
    split
    · rw [List.reverse_cons, ih (by omega), List.take_append_of_le_length (by omega), List.drop_append_of_le_length (by omega)]; simp
    · have hl1 : (out.take k ++ [out[k]]).length = k + 1 := by rw [List.length_append, hl]; rfl
      rw [List.take_of_length_le (l := out.take k ++ [out[k]]) (Nat.le_of_eq hl1), List.drop_of_length_le (l := out.take k ++ [out[k]]) (Nat.le_of_eq hl1)]; simp
theorem insE_srt (x : RS.Ent) (out : List RS.Ent) : RS.insE out x = (ST.insR RS.bef x out.reverse).reverse := by
  have := insE_eq x out out.length (Nat.le_refl _)
  rw [List.take_length] at this
  rw [this]; rfl
theorem sortR_fold (es out : List RS.Ent) : es.foldl RS.insE out = (ST.srtR RS.bef es out.reverse).reverse := by
  induction es generalizing out with
  | nil => simp [ST.srtR]
  | cons a l ih =>
    rw [List.foldl_cons, ih, insE_srt, List.reverse_reverse]; rfl
theorem sortR_srt (es : List RS.Ent) : RS.sortR es = ST.srt RS.bef es := sortR_fold es []

def RE.ent (r : RE) : RS.Ent := ⟨r.x.f0, r.x.f1, r.A, r.x.f2.length, r.c, r.x.f3⟩
theorem ecells_ent (rs : List RE) : RS.ecells (rs.map RE.ent) = rs.flatMap RE.cells := by
  unfold RS.ecells
  rw [List.flatMap_map]; rfl
theorem sort_ent (rs : List RE) : RS.sortR (rs.map RE.ent) = (ST.srt (ltOf cfE) rs).map RE.ent := by
  rw [sortR_srt, ST.srt_map RE.ent (ltOf cfE) RS.bef (fun x y => rfl)]

end Go.Proofs.YtojocffjajcdmaaDoor
