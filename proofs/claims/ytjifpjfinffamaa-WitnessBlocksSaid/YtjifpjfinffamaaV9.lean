/- The look over a history in memory: what it holds; its table's entries. -/
import Derived.Test.YtjifpjfinffamaaV7
import Derived.Test.YtjifpjfinffamaaV8
import Derived.Maps.OwnSet
namespace Go.Proofs.Ytjifpjfinffamaa
open Go.RowKit Go.Maps

theorem law40 : Keyed Try.prog 40 := int_keyed Try.underlying40
abbrev lu (x : Int) : Lit := .int .u64 x
/-- the map reads as the words written -/
structure MDw (D : DataW Unit) (l : List (Int × Int)) : Prop where
  tidy : Tidy D
  has : ∀ a, Maps.has D (lu a) = (wrt l a).isSome
  at_ : ∀ a v, wrt l a = some v → ∀ z, D.atKey (lu a) z = .lit (lu v)
  size : Maps.size D = 0 ↔ l.length = 0
theorem MDw.start : MDw (.map []) [] := ⟨tidy_empty, fun a => rfl, fun a v h => by simp [wrt] at h, by simp [Maps.size]⟩
theorem MDw.put {D : DataW Unit} {l : List (Int × Int)} (h : MDw D l) (a v : Int) : MDw (D.put (lu a) (.lit (lu v))) (l ++ [(a, v)]) := by
  have hk : WideAt.IsKeyLit (lu a) := trivial
  have hm : IsMap D := h.tidy.isMap
  refine ⟨h.tidy.put hk _, fun c => ?_, fun c u hc z => ?_, ?_⟩
  · rw [wrt_snoc]
    by_cases e : a = c
    · subst e
      rw [if_pos rfl, has_put_same hm hk]
      rfl
    · rw [if_neg e, has_put_other (by intro h; injection h with _ h; exact e h.symm)]
      exact h.has c
  · rw [wrt_snoc] at hc
    by_cases e : a = c
    · subst e
      rw [if_pos rfl] at hc
      injection hc with hc
      subst hc
      exact atKey_put_same hm hk _ _
    · rw [if_neg e] at hc
      rw [atKey_put_other (by intro h; injection h with _ h; exact e h.symm)]
      exact h.at_ c u hc z
  · rw [size_put h.tidy]
    constructor
    · intro h1
      split at h1
      · rename_i h2
        rw [h.has] at h2
        have := h.size.1 h1
        rw [List.eq_nil_of_length_eq_zero this] at h2
        cases h2
      · omega
    · intro h1
      simp at h1

/-- how a kind turns a thread, and 1; 0: not -/
theorem tab_next {hw kk : Nat} (h4 : hw < 4) (hk : 1 ≤ kk ∧ kk ≤ 12) (er : Int) : ∃ tv : Int, tabV (hw * 13 + kk) = .int .i64 tv ∧ (nextI hw kk er < 0 ↔ tv = 0 ∨ (hw = 0 ∧ kk = 9 ∧ er ≠ 4)) ∧ (0 ≤ nextI hw kk er → tv - 1 = nextI hw kk er) := by
  refine ⟨_, rfl, ?_, ?_⟩
  all_goals
    have hh : hw = 0 ∨ hw = 1 ∨ hw = 2 ∨ hw = 3 := by omega
    have hkk : kk = 1 ∨ kk = 2 ∨ kk = 3 ∨ kk = 4 ∨ kk = 5 ∨ kk = 6 ∨ kk = 7 ∨ kk = 8 ∨ kk = 9 ∨ kk = 10 ∨ kk = 11 ∨ kk = 12 := by omega
    rcases hh with rfl | rfl | rfl | rfl <;> rcases hkk with rfl | rfl | rfl | rfl | rfl | rfl | rfl | rfl | rfl | rfl | rfl | rfl <;> simp [nextI, rowA, rowB] <;> (try split) <;> omega

/-- the cells of the attempts, whatever they say -/
def Shape (M : Nat) (vs : List Value) : Prop := ∀ (q : Nat) x, vs[q]? = some x → if q % 7 = 3 then ∃ y, x = .int .u64 y else ∃ y : Int, x = .int .i64 y ∧ (5 ≤ q % 7 → 0 ≤ y ∧ y ≤ M)
/-- what the look's block holds -/
def lF (s : SS) (mp : Nat → Option Nat) (tr : Nat → Int) (hd : Int) (At : Option Addr) (nt ct : Nat) (i : Nat) : Value :=
  if i < 52 then tabV i else if i = 84 then .int .u64 s.num else if i = 85 then .int .i64 hd else if i = 86 then .slice At nt ct
  else if i % 4 = 0 then .int .i64 (s.t ((i - 52) / 4)).how else if i % 4 = 1 then .int .u64 (s.t ((i - 52) / 4)).snap else if i % 4 = 2 then .map (mp ((i - 52) / 4)) else .int .i64 (tr ((i - 52) / 4))
def Act_ (h : Int) : Prop := h = 1 ∨ h = 2
structure LInv (w : World) (base b m : Nat) (s : SS) (mp : Nat → Option Nat) (tr : Nat → Int) (hd : Int) (At : Option Addr) (ct nt : Nat) (vs : List Value) : Prop where
  blk : Blk w base 193 b 87 (lF s mp tr hd At nt ct)
  trs : w.ownsRow base 214 7 (.slice At nt ct) nt vs
  shape : Shape m vs
  maps : ∀ i, i < 8 → Act_ (s.t i).how → (∃ g n D, mp i = some g ∧ base ≤ g ∧ n ≤ m ∧ w.ownsMap (H := Unit) Try.prog 40 (plainElem Try.prog 40) g n D ∧ MDw D (s.t i).wr) ∧ 0 ≤ tr i ∧ tr i < nt
  apart : ∀ i j, i < 8 → j < 8 → i ≠ j → Act_ (s.t i).how → Act_ (s.t j).how → mp i ≠ mp j
  hold : (hd = -1 ∧ ∀ i, i < 8 → (s.t i).how ≠ 2) ∨ ∃ i : Nat, i < 8 ∧ hd = i ∧ (s.t i).how = 2 ∧ ∀ j, j < 8 → j ≠ i → (s.t j).how ≠ 2
  snap : ∀ i, i < 8 → 0 ≤ (s.t i).snap ∧ (s.t i).snap < 18446744073709551616
  how : ∀ i, i < 8 → 0 ≤ (s.t i).how ∧ (s.t i).how < 4
  few : nt ≤ m
structure LC (w : World) (b : Nat) (s : SS) (mp : Nat → Option Nat) (tr : Nat → Int) (hd : Int) (At : Option Addr) (nt ct : Nat) : Prop where
  tab : ∀ j, j < 52 → w.cell? ⟨b, j, none⟩ = some (tabV j)
  how : ∀ i, i < 8 → w.cell? ⟨b, 52 + i * 4, none⟩ = some (.int .i64 (s.t i).how)
  snap : ∀ i, i < 8 → w.cell? ⟨b, 52 + i * 4 + 1, none⟩ = some (.int .u64 (s.t i).snap)
  map : ∀ i, i < 8 → w.cell? ⟨b, 52 + i * 4 + 2, none⟩ = some (.map (mp i))
  try_ : ∀ i, i < 8 → w.cell? ⟨b, 52 + i * 4 + 3, none⟩ = some (.int .i64 (tr i))
  num : w.cell? ⟨b, 84, none⟩ = some (.int .u64 s.num)
  hd : w.cell? ⟨b, 85, none⟩ = some (.int .i64 hd)
  trs : w.cell? ⟨b, 86, none⟩ = some (.slice At nt ct)
section
variable {w w' : World} {base b m : Nat} {s : SS} {mp : Nat → Option Nat} {tr : Nat → Int} {hd : Int} {At : Option Addr} {ct nt : Nat} {vs : List Value}
theorem LInv.cells (h : LInv w base b m s mp tr hd At ct nt vs) : LC w b s mp tr hd At nt ct := by
  refine ⟨fun j hj => ?_, fun i hi => ?_, fun i hi => ?_, fun i hi => ?_, fun i hi => ?_, ?_, ?_, ?_⟩
  · rw [(h.blk.cell (j := j) (by omega)).1, lF, if_pos hj]
  · rw [(h.blk.cell (j := 52 + i * 4) (by omega)).1, lF, if_neg (by omega), if_neg (by omega), if_neg (by omega), if_neg (by omega), if_pos (by omega), show (52 + i * 4 - 52) / 4 = i by omega]
  · rw [(h.blk.cell (j := 52 + i * 4 + 1) (by omega)).1, lF, if_neg (by omega), if_neg (by omega), if_neg (by omega), if_neg (by omega), if_neg (by omega), if_pos (by omega), show (52 + i * 4 + 1 - 52) / 4 = i by omega]
  · rw [(h.blk.cell (j := 52 + i * 4 + 2) (by omega)).1, lF, if_neg (by omega), if_neg (by omega), if_neg (by omega), if_neg (by omega), if_neg (by omega), if_neg (by omega), if_pos (by omega), show (52 + i * 4 + 2 - 52) / 4 = i by omega]
  · rw [(h.blk.cell (j := 52 + i * 4 + 3) (by omega)).1, lF, if_neg (by omega), if_neg (by omega), if_neg (by omega), if_neg (by omega), if_neg (by omega), if_neg (by omega), if_neg (by omega), show (52 + i * 4 + 3 - 52) / 4 = i by omega]
  · rw [(h.blk.cell (j := 84) (by omega)).1]; rfl
  · rw [(h.blk.cell (j := 85) (by omega)).1]; rfl
  · rw [(h.blk.cell (j := 86) (by omega)).1]; rfl
theorem LInv.kept (h : LInv w base b m s mp tr hd At ct nt vs) (hb : Below w.heap.size w w') : LInv w' base b m s mp tr hd At ct nt vs := by
  refine ⟨h.blk.below h.blk.lt.2 hb, ?_, h.shape, fun i hi ha => ?_, h.apart, h.hold, h.snap, h.how, h.few⟩
  · refine ⟨h.trs.1, ?_⟩
    rcases h.trs.2 with h2 | ⟨g, cap, cur, hv, hbg, hh, h3⟩
    · exact .inl h2
    · exact .inr ⟨g, cap, cur, hv, hbg, (hb.block g (Array.getElem?_eq_some_iff.1 hh).1).trans hh, h3⟩
  · obtain ⟨⟨g, n, D, h1, h2, h3, ⟨es, ck, h4, h5⟩, h6⟩, h7⟩ := h.maps i hi ha
    exact ⟨⟨g, n, D, h1, h2, h3, ⟨es, ck, (hb.block g (Array.getElem?_eq_some_iff.1 h4).1).trans h4, h5⟩, h6⟩, h7⟩
theorem LInv.lock (h : LInv w base b m s mp tr hd At ct nt vs) {t : Nat} (ht : (s.t t).how ≠ 2) : lockedB s t = true ↔ 0 ≤ hd := by
  unfold lockedB
  rw [List.any_eq_true]
  rcases h.hold with ⟨rfl, h1⟩ | ⟨i, hi, rfl, h1, h2⟩
  · constructor
    · rintro ⟨j, hj, h2⟩
      simp at h2
      exact absurd h2.2 (h1 j (List.mem_range.1 hj))
    · intro h2; omega
  · constructor
    · intro _; omega
    · intro _
      exact ⟨i, List.mem_range.2 hi, by simp [h1]; intro e; subst e; exact ht h1⟩
end
end Go.Proofs.Ytjifpjfinffamaa
