/- Texts V8 V9 YA YB Y2 Y8, laid together. -/
import Derived.Test.YtjifpjfinffamaaZ2
import Derived.Test.YtjifpjfinffamaaZ3
import Derived.Test.YtjifpjfinffamaaZ6
import Derived.Handy
import Derived.Maps.RangeWalk
import Derived.Maps.Views
import Derived.Deep.MidRow
import Derived.Maps.OwnSet
import Derived.BigRegion
import Derived.Shelf.SlSortCmp.NoneTotal
section
namespace Go.Proofs.Ytjifpjfinffamaa
open Go.RowKit Go.Maps
theorem law95 : Keyed Try.prog 95 := int_keyed Try.underlying95
abbrev li (x : Int) : Lit := .int .i64 x
def D1 : DataW Unit := (((((DataW.map []).put (li 1) (.lit (li 1))).put (li 10) (.lit (li 0))).put (li 11) (.lit (li 0))).put (li 9) (.lit (li 3))).put (li 12) (.lit (li 3))
theorem D1_eq : D1 = .map [(li 1, .lit (li 1)), (li 9, .lit (li 3)), (li 10, .lit (li 0)), (li 11, .lit (li 0)), (li 12, .lit (li 3))] := by rfl
theorem D1_has {x : Int} : Maps.has D1 (li x) = true ↔ x = 1 ∨ x = 9 ∨ x = 10 ∨ x = 11 ∨ x = 12 := by
  rw [D1_eq, has_eq]
  simp [Lit.sameKey]
  omega
theorem D1_at (x : Int) (z : DataW Unit) (h : x = 1 ∨ x = 9 ∨ x = 10 ∨ x = 11 ∨ x = 12) : D1.atKey (li x) z = .lit (li (if x = 1 then 1 else if x = 9 then 3 else if x = 12 then 3 else 0)) := by
  rw [D1_eq]
  rcases h with rfl | rfl | rfl | rfl | rfl <;> rfl
def D2 : DataW Unit := (((((((((DataW.map []).put (li 2) (.lit (li 1))).put (li 3) (.lit (li 1))).put (li 4) (.lit (li 1))).put (li 5) (.lit (li 2))).put (li 6) (.lit (li 0))).put (li 7) (.lit (li 0))).put (li 8) (.lit (li 0))).put (li 9) (.lit (li 3)))
theorem D2_eq : D2 = .map [(li 2, .lit (li 1)), (li 3, .lit (li 1)), (li 4, .lit (li 1)), (li 5, .lit (li 2)), (li 6, .lit (li 0)), (li 7, .lit (li 0)), (li 8, .lit (li 0)), (li 9, .lit (li 3))] := by rfl
theorem D2_has {x : Int} : Maps.has D2 (li x) = true ↔ 2 ≤ x ∧ x ≤ 9 := by
  rw [D2_eq, has_eq]
  simp [Lit.sameKey]
  omega
theorem D2_at (x : Int) (z : DataW Unit) (h : x = 2 ∨ x = 3 ∨ x = 4 ∨ x = 5 ∨ x = 6 ∨ x = 7 ∨ x = 8 ∨ x = 9) : D2.atKey (li x) z = .lit (li (if x ≤ 4 then 1 else if x = 5 then 2 else if x = 9 then 3 else 0)) := by
  rw [D2_eq]
  rcases h with rfl | rfl | rfl | rfl | rfl | rfl | rfl | rfl <;> rfl
def rowA (j : Nat) : Int := if j = 1 then 2 else if j = 9 then 4 else if j = 10 then 1 else if j = 11 then 1 else if j = 12 then 4 else 0
def rowB (j : Nat) : Int := if 15 ≤ j ∧ j ≤ 17 then 2 else if j = 18 then 3 else if 19 ≤ j ∧ j ≤ 21 then 1 else if j = 22 then 4 else 0
def tb1 (left : Lit → Bool) (j : Nat) : Value := .int .i64 (if left (li j) = true then 0 else rowA j)
def tb2 (left : Lit → Bool) (j : Nat) : Value := .int .i64 (if left (li ((j : Int) - 13)) = true then rowA j else rowA j + rowB j)
def tabV (j : Nat) : Value := .int .i64 (if j = 32 then 1 else rowA j + rowB j)
theorem tb1_start (j : Nat) : tb1 (Maps.has D1) j = .int .i64 0 := by
  unfold tb1
  by_cases h : Maps.has D1 (li j) = true
  · rw [if_pos h]
  · rw [if_neg h]
    rw [D1_has] at h
    unfold rowA
    rw [if_neg (by omega), if_neg (by omega), if_neg (by omega), if_neg (by omega), if_neg (by omega)]
theorem tb1_step {left : Lit → Bool} {x : Nat} {v : Int} (hv : v = rowA x) (j : Nat) : (if j = x then Value.int .i64 v else tb1 left j) = tb1 (fun z => left z && !z.sameKey (li x)) j := by
  by_cases h : j = x
  · subst h
    rw [if_pos rfl]
    simp [tb1, Lit.sameKey, hv]
  · rw [if_neg h]
    have : ¬ (j : Int) = x := by omega
    simp [tb1, Lit.sameKey, this]
theorem tb2_start (j : Nat) : tb2 (Maps.has D2) j = .int .i64 (rowA j) := by
  unfold tb2
  by_cases h : Maps.has D2 (li ((j : Int) - 13)) = true
  · rw [if_pos h]
  · rw [if_neg h]
    rw [D2_has] at h
    have : rowB j = 0 := by
      unfold rowB
      rw [if_neg (by omega), if_neg (by omega), if_neg (by omega), if_neg (by omega)]
    rw [this, Int.add_zero]
theorem tb2_step {left : Lit → Bool} {x : Nat} {v : Int} (hv : v = rowA (x + 13) + rowB (x + 13)) (j : Nat) : (if j = x + 13 then Value.int .i64 v else tb2 left j) = tb2 (fun z => left z && !z.sameKey (li x)) j := by
  by_cases h : j = x + 13
  · subst h
    rw [if_pos rfl]
    simp [tb2, Lit.sameKey, hv]
  · rw [if_neg h]
    have : ¬ (j : Int) - 13 = x := by omega
    simp [tb2, Lit.sameKey, this]
theorem tb1_end {left : Lit → Bool} (h : ∀ kl, left kl = false) (j : Nat) : tb1 left j = .int .i64 (rowA j) := by simp [tb1, h]
theorem tb2_end {left : Lit → Bool} (h : ∀ kl, left kl = false) (j : Nat) : tb2 left j = .int .i64 (rowA j + rowB j) := by simp [tb2, h]
theorem blk_new (w : World) (cs : Array Value) (t n : Nat) (f : Nat → Value) (hf : (List.range n).map f = cs.toList) : Blk (w.alloc (.cells cs t)) w.heap.size t w.heap.size n f := by
  have hl : cs.size = n := by rw [← Array.length_toList, ← hf]; simp
  have h := World.ownsRow_lit (base := w.heap.size) (e := t) (size := n) w cs 1 (Nat.le_refl _) (by decide) (by omega)
  unfold Blk
  rw [hf]
  exact h
theorem Blk.grown {w w' : World} {base t b n : Nat} {f : Nat → Value} (h : Blk w base t b n f) {row : Option Nat} (hg : w.grownBy w' row) (hne : some b ≠ row) : Blk w' base t b n f := h.kept (hg.block b h.lt.2 hne)
theorem Blk.range {w : World} {base t b n : Nat} {f : Nat → Value} (h : Blk w base t b n f) : w.rangeAt b 0 ((List.range n).map f) := by
  intro j v hj
  have hl : j < n := by have := (List.getElem?_eq_some_iff.1 hj).1; simpa using this
  rw [Nat.zero_add, (h.cell hl).1]
  simpa [hl] using hj
theorem Blk.there {w : World} {base t b n : Nat} {f : Nat → Value} (h : Blk w base t b n f) : w.there b 0 n := by
  intro j hj
  rw [Nat.zero_add]
  exact ⟨by rw [(h.cell hj).1]; rfl, (h.cell hj).2⟩
theorem grown_set (w : World) (p : Addr) (v : Value) : w.grownBy (w.setCell p v) (some p.block) := ⟨rfl, rfl, rfl, by simp [World.setCell], fun k _ hne => Below.heap_setCell w p v k (fun e => hne (by rw [e]))⟩
def tabL : List Value := (List.range 52).map tabV
theorem tabL_one : tabL.toArray.all (·.oneCell') = true := all_oneCell_toArray (fun v hv => by obtain ⟨j, _, rfl⟩ := List.mem_map.1 hv; rfl)
theorem below_setCells {B : Nat} {a w : World} (h : Below B a w) {b : Nat} (hb : B ≤ b) : ∀ (o : Nat) (vs : List Value), Below B a (w.setCells b o vs)
  | _, [] => h
  | o, v :: vs => below_setCells (h.setCell (p := ⟨b, o, none⟩) hb v) hb (o + 1) vs
theorem info185 : (Try.prog.info? 185).map (·.size) = some 52 := by kernel_rfl
set_option linter.unusedSimpArgs false in
set_option maxRecDepth 100000 in
set_option maxHeartbeats 3200000 in
theorem table_any (w : World) : Calls Try.prog 116 #[] w fun e' w' => e' = .returned (.agg tabL.toArray) ∧ Below w.heap.size w w' := by
  have hmm := @run_makeMap Try.prog
  have hB : Below w.heap.size w (((w.alloc (.cells #[.int .i64 0, .int .i64 0, .int .i64 0, .int .i64 0, .int .i64 0, .int .i64 0, .int .i64 0, .int .i64 0, .int .i64 0, .int .i64 0, .int .i64 0, .int .i64 0, .int .i64 0, .int .i64 0, .int .i64 0, .int .i64 0, .int .i64 0, .int .i64 0, .int .i64 0, .int .i64 0, .int .i64 0, .int .i64 0, .int .i64 0, .int .i64 0, .int .i64 0, .int .i64 0, .int .i64 0, .int .i64 0, .int .i64 0, .int .i64 0, .int .i64 0, .int .i64 0, .int .i64 0, .int .i64 0, .int .i64 0, .int .i64 0, .int .i64 0, .int .i64 0, .int .i64 0, .int .i64 0, .int .i64 0, .int .i64 0, .int .i64 0, .int .i64 0, .int .i64 0, .int .i64 0, .int .i64 0, .int .i64 0, .int .i64 0, .int .i64 0, .int .i64 0, .int .i64 0] 185)).alloc (.cells #[.int .i64 0, .int .i64 0, .int .i64 0, .int .i64 0, .int .i64 0, .int .i64 0, .int .i64 0, .int .i64 0, .int .i64 0, .int .i64 0, .int .i64 0, .int .i64 0, .int .i64 0, .int .i64 0, .int .i64 0, .int .i64 0, .int .i64 0, .int .i64 0, .int .i64 0, .int .i64 0, .int .i64 0, .int .i64 0, .int .i64 0, .int .i64 0, .int .i64 0, .int .i64 0, .int .i64 0, .int .i64 0, .int .i64 0, .int .i64 0, .int .i64 0, .int .i64 0, .int .i64 0, .int .i64 0, .int .i64 0, .int .i64 0, .int .i64 0, .int .i64 0, .int .i64 0, .int .i64 0, .int .i64 0, .int .i64 0, .int .i64 0, .int .i64 0, .int .i64 0, .int .i64 0, .int .i64 0, .int .i64 0, .int .i64 0, .int .i64 0, .int .i64 0, .int .i64 0] 185)).alloc (.map #[] 0)) := (((Below.refl _ _).alloc (Nat.le_refl _) _).alloc (by simp) _).alloc (by simp; omega) _
  have hM : (((w.alloc (.cells #[.int .i64 0, .int .i64 0, .int .i64 0, .int .i64 0, .int .i64 0, .int .i64 0, .int .i64 0, .int .i64 0, .int .i64 0, .int .i64 0, .int .i64 0, .int .i64 0, .int .i64 0, .int .i64 0, .int .i64 0, .int .i64 0, .int .i64 0, .int .i64 0, .int .i64 0, .int .i64 0, .int .i64 0, .int .i64 0, .int .i64 0, .int .i64 0, .int .i64 0, .int .i64 0, .int .i64 0, .int .i64 0, .int .i64 0, .int .i64 0, .int .i64 0, .int .i64 0, .int .i64 0, .int .i64 0, .int .i64 0, .int .i64 0, .int .i64 0, .int .i64 0, .int .i64 0, .int .i64 0, .int .i64 0, .int .i64 0, .int .i64 0, .int .i64 0, .int .i64 0, .int .i64 0, .int .i64 0, .int .i64 0, .int .i64 0, .int .i64 0, .int .i64 0, .int .i64 0] 185)).alloc (.cells #[.int .i64 0, .int .i64 0, .int .i64 0, .int .i64 0, .int .i64 0, .int .i64 0, .int .i64 0, .int .i64 0, .int .i64 0, .int .i64 0, .int .i64 0, .int .i64 0, .int .i64 0, .int .i64 0, .int .i64 0, .int .i64 0, .int .i64 0, .int .i64 0, .int .i64 0, .int .i64 0, .int .i64 0, .int .i64 0, .int .i64 0, .int .i64 0, .int .i64 0, .int .i64 0, .int .i64 0, .int .i64 0, .int .i64 0, .int .i64 0, .int .i64 0, .int .i64 0, .int .i64 0, .int .i64 0, .int .i64 0, .int .i64 0, .int .i64 0, .int .i64 0, .int .i64 0, .int .i64 0, .int .i64 0, .int .i64 0, .int .i64 0, .int .i64 0, .int .i64 0, .int .i64 0, .int .i64 0, .int .i64 0, .int .i64 0, .int .i64 0, .int .i64 0, .int .i64 0] 185)).alloc (.map #[] 0)).ownsMap (H := Unit) Try.prog 95 (plainElem Try.prog 3) (w.heap.size + 1 + 1) 0 (.map []) := by
    have := World.ownsMap_made (H := Unit) ((w.alloc (.cells #[.int .i64 0, .int .i64 0, .int .i64 0, .int .i64 0, .int .i64 0, .int .i64 0, .int .i64 0, .int .i64 0, .int .i64 0, .int .i64 0, .int .i64 0, .int .i64 0, .int .i64 0, .int .i64 0, .int .i64 0, .int .i64 0, .int .i64 0, .int .i64 0, .int .i64 0, .int .i64 0, .int .i64 0, .int .i64 0, .int .i64 0, .int .i64 0, .int .i64 0, .int .i64 0, .int .i64 0, .int .i64 0, .int .i64 0, .int .i64 0, .int .i64 0, .int .i64 0, .int .i64 0, .int .i64 0, .int .i64 0, .int .i64 0, .int .i64 0, .int .i64 0, .int .i64 0, .int .i64 0, .int .i64 0, .int .i64 0, .int .i64 0, .int .i64 0, .int .i64 0, .int .i64 0, .int .i64 0, .int .i64 0, .int .i64 0, .int .i64 0, .int .i64 0, .int .i64 0] 185)).alloc (.cells #[.int .i64 0, .int .i64 0, .int .i64 0, .int .i64 0, .int .i64 0, .int .i64 0, .int .i64 0, .int .i64 0, .int .i64 0, .int .i64 0, .int .i64 0, .int .i64 0, .int .i64 0, .int .i64 0, .int .i64 0, .int .i64 0, .int .i64 0, .int .i64 0, .int .i64 0, .int .i64 0, .int .i64 0, .int .i64 0, .int .i64 0, .int .i64 0, .int .i64 0, .int .i64 0, .int .i64 0, .int .i64 0, .int .i64 0, .int .i64 0, .int .i64 0, .int .i64 0, .int .i64 0, .int .i64 0, .int .i64 0, .int .i64 0, .int .i64 0, .int .i64 0, .int .i64 0, .int .i64 0, .int .i64 0, .int .i64 0, .int .i64 0, .int .i64 0, .int .i64 0, .int .i64 0, .int .i64 0, .int .i64 0, .int .i64 0, .int .i64 0, .int .i64 0, .int .i64 0] 185)) Try.prog 95 (plainElem Try.prog 3)
    simpa using this
  have hs : (((w.alloc (.cells #[.int .i64 0, .int .i64 0, .int .i64 0, .int .i64 0, .int .i64 0, .int .i64 0, .int .i64 0, .int .i64 0, .int .i64 0, .int .i64 0, .int .i64 0, .int .i64 0, .int .i64 0, .int .i64 0, .int .i64 0, .int .i64 0, .int .i64 0, .int .i64 0, .int .i64 0, .int .i64 0, .int .i64 0, .int .i64 0, .int .i64 0, .int .i64 0, .int .i64 0, .int .i64 0, .int .i64 0, .int .i64 0, .int .i64 0, .int .i64 0, .int .i64 0, .int .i64 0, .int .i64 0, .int .i64 0, .int .i64 0, .int .i64 0, .int .i64 0, .int .i64 0, .int .i64 0, .int .i64 0, .int .i64 0, .int .i64 0, .int .i64 0, .int .i64 0, .int .i64 0, .int .i64 0, .int .i64 0, .int .i64 0, .int .i64 0, .int .i64 0, .int .i64 0, .int .i64 0] 185)).alloc (.cells #[.int .i64 0, .int .i64 0, .int .i64 0, .int .i64 0, .int .i64 0, .int .i64 0, .int .i64 0, .int .i64 0, .int .i64 0, .int .i64 0, .int .i64 0, .int .i64 0, .int .i64 0, .int .i64 0, .int .i64 0, .int .i64 0, .int .i64 0, .int .i64 0, .int .i64 0, .int .i64 0, .int .i64 0, .int .i64 0, .int .i64 0, .int .i64 0, .int .i64 0, .int .i64 0, .int .i64 0, .int .i64 0, .int .i64 0, .int .i64 0, .int .i64 0, .int .i64 0, .int .i64 0, .int .i64 0, .int .i64 0, .int .i64 0, .int .i64 0, .int .i64 0, .int .i64 0, .int .i64 0, .int .i64 0, .int .i64 0, .int .i64 0, .int .i64 0, .int .i64 0, .int .i64 0, .int .i64 0, .int .i64 0, .int .i64 0, .int .i64 0, .int .i64 0, .int .i64 0] 185)).alloc (.map #[] 0)).heap.size = w.heap.size + 3 := by simp
  have hR : Blk (((w.alloc (.cells #[.int .i64 0, .int .i64 0, .int .i64 0, .int .i64 0, .int .i64 0, .int .i64 0, .int .i64 0, .int .i64 0, .int .i64 0, .int .i64 0, .int .i64 0, .int .i64 0, .int .i64 0, .int .i64 0, .int .i64 0, .int .i64 0, .int .i64 0, .int .i64 0, .int .i64 0, .int .i64 0, .int .i64 0, .int .i64 0, .int .i64 0, .int .i64 0, .int .i64 0, .int .i64 0, .int .i64 0, .int .i64 0, .int .i64 0, .int .i64 0, .int .i64 0, .int .i64 0, .int .i64 0, .int .i64 0, .int .i64 0, .int .i64 0, .int .i64 0, .int .i64 0, .int .i64 0, .int .i64 0, .int .i64 0, .int .i64 0, .int .i64 0, .int .i64 0, .int .i64 0, .int .i64 0, .int .i64 0, .int .i64 0, .int .i64 0, .int .i64 0, .int .i64 0, .int .i64 0] 185)).alloc (.cells #[.int .i64 0, .int .i64 0, .int .i64 0, .int .i64 0, .int .i64 0, .int .i64 0, .int .i64 0, .int .i64 0, .int .i64 0, .int .i64 0, .int .i64 0, .int .i64 0, .int .i64 0, .int .i64 0, .int .i64 0, .int .i64 0, .int .i64 0, .int .i64 0, .int .i64 0, .int .i64 0, .int .i64 0, .int .i64 0, .int .i64 0, .int .i64 0, .int .i64 0, .int .i64 0, .int .i64 0, .int .i64 0, .int .i64 0, .int .i64 0, .int .i64 0, .int .i64 0, .int .i64 0, .int .i64 0, .int .i64 0, .int .i64 0, .int .i64 0, .int .i64 0, .int .i64 0, .int .i64 0, .int .i64 0, .int .i64 0, .int .i64 0, .int .i64 0, .int .i64 0, .int .i64 0, .int .i64 0, .int .i64 0, .int .i64 0, .int .i64 0, .int .i64 0, .int .i64 0] 185)).alloc (.map #[] 0)) w.heap.size 185 w.heap.size 52 (fun _ => .int .i64 0) :=
    (blk_new w #[.int .i64 0, .int .i64 0, .int .i64 0, .int .i64 0, .int .i64 0, .int .i64 0, .int .i64 0, .int .i64 0, .int .i64 0, .int .i64 0, .int .i64 0, .int .i64 0, .int .i64 0, .int .i64 0, .int .i64 0, .int .i64 0, .int .i64 0, .int .i64 0, .int .i64 0, .int .i64 0, .int .i64 0, .int .i64 0, .int .i64 0, .int .i64 0, .int .i64 0, .int .i64 0, .int .i64 0, .int .i64 0, .int .i64 0, .int .i64 0, .int .i64 0, .int .i64 0, .int .i64 0, .int .i64 0, .int .i64 0, .int .i64 0, .int .i64 0, .int .i64 0, .int .i64 0, .int .i64 0, .int .i64 0, .int .i64 0, .int .i64 0, .int .i64 0, .int .i64 0, .int .i64 0, .int .i64 0, .int .i64 0, .int .i64 0, .int .i64 0, .int .i64 0, .int .i64 0] 185 52 (fun _ => .int .i64 0) (by rfl)).kept ((Below.heap_alloc _ _ _ (by simp; omega)).trans (Below.heap_alloc _ _ _ (by simp)))
  have hT : Blk (((w.alloc (.cells #[.int .i64 0, .int .i64 0, .int .i64 0, .int .i64 0, .int .i64 0, .int .i64 0, .int .i64 0, .int .i64 0, .int .i64 0, .int .i64 0, .int .i64 0, .int .i64 0, .int .i64 0, .int .i64 0, .int .i64 0, .int .i64 0, .int .i64 0, .int .i64 0, .int .i64 0, .int .i64 0, .int .i64 0, .int .i64 0, .int .i64 0, .int .i64 0, .int .i64 0, .int .i64 0, .int .i64 0, .int .i64 0, .int .i64 0, .int .i64 0, .int .i64 0, .int .i64 0, .int .i64 0, .int .i64 0, .int .i64 0, .int .i64 0, .int .i64 0, .int .i64 0, .int .i64 0, .int .i64 0, .int .i64 0, .int .i64 0, .int .i64 0, .int .i64 0, .int .i64 0, .int .i64 0, .int .i64 0, .int .i64 0, .int .i64 0, .int .i64 0, .int .i64 0, .int .i64 0] 185)).alloc (.cells #[.int .i64 0, .int .i64 0, .int .i64 0, .int .i64 0, .int .i64 0, .int .i64 0, .int .i64 0, .int .i64 0, .int .i64 0, .int .i64 0, .int .i64 0, .int .i64 0, .int .i64 0, .int .i64 0, .int .i64 0, .int .i64 0, .int .i64 0, .int .i64 0, .int .i64 0, .int .i64 0, .int .i64 0, .int .i64 0, .int .i64 0, .int .i64 0, .int .i64 0, .int .i64 0, .int .i64 0, .int .i64 0, .int .i64 0, .int .i64 0, .int .i64 0, .int .i64 0, .int .i64 0, .int .i64 0, .int .i64 0, .int .i64 0, .int .i64 0, .int .i64 0, .int .i64 0, .int .i64 0, .int .i64 0, .int .i64 0, .int .i64 0, .int .i64 0, .int .i64 0, .int .i64 0, .int .i64 0, .int .i64 0, .int .i64 0, .int .i64 0, .int .i64 0, .int .i64 0] 185)).alloc (.map #[] 0)) w.heap.size 185 (w.heap.size + 1) 52 (fun _ => .int .i64 0) := by
    have h := ((blk_new (w.alloc (.cells #[.int .i64 0, .int .i64 0, .int .i64 0, .int .i64 0, .int .i64 0, .int .i64 0, .int .i64 0, .int .i64 0, .int .i64 0, .int .i64 0, .int .i64 0, .int .i64 0, .int .i64 0, .int .i64 0, .int .i64 0, .int .i64 0, .int .i64 0, .int .i64 0, .int .i64 0, .int .i64 0, .int .i64 0, .int .i64 0, .int .i64 0, .int .i64 0, .int .i64 0, .int .i64 0, .int .i64 0, .int .i64 0, .int .i64 0, .int .i64 0, .int .i64 0, .int .i64 0, .int .i64 0, .int .i64 0, .int .i64 0, .int .i64 0, .int .i64 0, .int .i64 0, .int .i64 0, .int .i64 0, .int .i64 0, .int .i64 0, .int .i64 0, .int .i64 0, .int .i64 0, .int .i64 0, .int .i64 0, .int .i64 0, .int .i64 0, .int .i64 0, .int .i64 0, .int .i64 0] 185)) #[.int .i64 0, .int .i64 0, .int .i64 0, .int .i64 0, .int .i64 0, .int .i64 0, .int .i64 0, .int .i64 0, .int .i64 0, .int .i64 0, .int .i64 0, .int .i64 0, .int .i64 0, .int .i64 0, .int .i64 0, .int .i64 0, .int .i64 0, .int .i64 0, .int .i64 0, .int .i64 0, .int .i64 0, .int .i64 0, .int .i64 0, .int .i64 0, .int .i64 0, .int .i64 0, .int .i64 0, .int .i64 0, .int .i64 0, .int .i64 0, .int .i64 0, .int .i64 0, .int .i64 0, .int .i64 0, .int .i64 0, .int .i64 0, .int .i64 0, .int .i64 0, .int .i64 0, .int .i64 0, .int .i64 0, .int .i64 0, .int .i64 0, .int .i64 0, .int .i64 0, .int .i64 0, .int .i64 0, .int .i64 0, .int .i64 0, .int .i64 0, .int .i64 0, .int .i64 0] 185 52 (fun _ => .int .i64 0) (by rfl)).kept (w' := ((w.alloc (.cells #[.int .i64 0, .int .i64 0, .int .i64 0, .int .i64 0, .int .i64 0, .int .i64 0, .int .i64 0, .int .i64 0, .int .i64 0, .int .i64 0, .int .i64 0, .int .i64 0, .int .i64 0, .int .i64 0, .int .i64 0, .int .i64 0, .int .i64 0, .int .i64 0, .int .i64 0, .int .i64 0, .int .i64 0, .int .i64 0, .int .i64 0, .int .i64 0, .int .i64 0, .int .i64 0, .int .i64 0, .int .i64 0, .int .i64 0, .int .i64 0, .int .i64 0, .int .i64 0, .int .i64 0, .int .i64 0, .int .i64 0, .int .i64 0, .int .i64 0, .int .i64 0, .int .i64 0, .int .i64 0, .int .i64 0, .int .i64 0, .int .i64 0, .int .i64 0, .int .i64 0, .int .i64 0, .int .i64 0, .int .i64 0, .int .i64 0, .int .i64 0, .int .i64 0, .int .i64 0] 185)).alloc (.cells #[.int .i64 0, .int .i64 0, .int .i64 0, .int .i64 0, .int .i64 0, .int .i64 0, .int .i64 0, .int .i64 0, .int .i64 0, .int .i64 0, .int .i64 0, .int .i64 0, .int .i64 0, .int .i64 0, .int .i64 0, .int .i64 0, .int .i64 0, .int .i64 0, .int .i64 0, .int .i64 0, .int .i64 0, .int .i64 0, .int .i64 0, .int .i64 0, .int .i64 0, .int .i64 0, .int .i64 0, .int .i64 0, .int .i64 0, .int .i64 0, .int .i64 0, .int .i64 0, .int .i64 0, .int .i64 0, .int .i64 0, .int .i64 0, .int .i64 0, .int .i64 0, .int .i64 0, .int .i64 0, .int .i64 0, .int .i64 0, .int .i64 0, .int .i64 0, .int .i64 0, .int .i64 0, .int .i64 0, .int .i64 0, .int .i64 0, .int .i64 0, .int .i64 0, .int .i64 0] 185)).alloc (.map #[] 0)) (Below.heap_alloc _ _ _ (by simp))).base' (base' := w.heap.size) (by simp)
    simpa using h
  have HB := Lib.hid hB
  have HM := Lib.hid hM
  have HS := Lib.hid hs
  have HR := Lib.hid hR
  have HT := Lib.hid hT
  clear hB hM hs hR hT
  go_enter Try.func116, Try.ntmps116
  go_wp2
  generalize (((w.alloc (.cells #[.int .i64 0, .int .i64 0, .int .i64 0, .int .i64 0, .int .i64 0, .int .i64 0, .int .i64 0, .int .i64 0, .int .i64 0, .int .i64 0, .int .i64 0, .int .i64 0, .int .i64 0, .int .i64 0, .int .i64 0, .int .i64 0, .int .i64 0, .int .i64 0, .int .i64 0, .int .i64 0, .int .i64 0, .int .i64 0, .int .i64 0, .int .i64 0, .int .i64 0, .int .i64 0, .int .i64 0, .int .i64 0, .int .i64 0, .int .i64 0, .int .i64 0, .int .i64 0, .int .i64 0, .int .i64 0, .int .i64 0, .int .i64 0, .int .i64 0, .int .i64 0, .int .i64 0, .int .i64 0, .int .i64 0, .int .i64 0, .int .i64 0, .int .i64 0, .int .i64 0, .int .i64 0, .int .i64 0, .int .i64 0, .int .i64 0, .int .i64 0, .int .i64 0, .int .i64 0] 185)).alloc (.cells #[.int .i64 0, .int .i64 0, .int .i64 0, .int .i64 0, .int .i64 0, .int .i64 0, .int .i64 0, .int .i64 0, .int .i64 0, .int .i64 0, .int .i64 0, .int .i64 0, .int .i64 0, .int .i64 0, .int .i64 0, .int .i64 0, .int .i64 0, .int .i64 0, .int .i64 0, .int .i64 0, .int .i64 0, .int .i64 0, .int .i64 0, .int .i64 0, .int .i64 0, .int .i64 0, .int .i64 0, .int .i64 0, .int .i64 0, .int .i64 0, .int .i64 0, .int .i64 0, .int .i64 0, .int .i64 0, .int .i64 0, .int .i64 0, .int .i64 0, .int .i64 0, .int .i64 0, .int .i64 0, .int .i64 0, .int .i64 0, .int .i64 0, .int .i64 0, .int .i64 0, .int .i64 0, .int .i64 0, .int .i64 0, .int .i64 0, .int .i64 0, .int .i64 0, .int .i64 0] 185)).alloc (.map #[] 0)) = w0 at *
  obtain ⟨w1, r1, m1, g1⟩ := HM.out.update law95 Try.underlying211 (by decide) (keyOf_int_mk (a := 1) Try.underlying95 (by decide)) (plainElem_int (a := 1) Try.underlying3 (by decide))
  obtain ⟨w2, r2, m2, g2⟩ := m1.update law95 Try.underlying211 (by decide) (keyOf_int_mk (a := 10) Try.underlying95 (by decide)) (plainElem_int (a := 0) Try.underlying3 (by decide))
  obtain ⟨w3, r3, m3, g3⟩ := m2.update law95 Try.underlying211 (by decide) (keyOf_int_mk (a := 11) Try.underlying95 (by decide)) (plainElem_int (a := 0) Try.underlying3 (by decide))
  obtain ⟨w4, r4, m4, g4⟩ := m3.update law95 Try.underlying211 (by decide) (keyOf_int_mk (a := 9) Try.underlying95 (by decide)) (plainElem_int (a := 3) Try.underlying3 (by decide))
  obtain ⟨w5, r5, m5, g5⟩ := m4.update law95 Try.underlying211 (by decide) (keyOf_int_mk (a := 12) Try.underlying95 (by decide)) (plainElem_int (a := 3) Try.underlying3 (by decide))
  obtain ⟨w6, r6, rg6, g6, s6⟩ := m5.range law95 Try.underlying211
  have RG := Lib.hid (show w6.ranges Try.prog 95 (plainElem Try.prog 3) (w.heap.size + 1 + 1) w5.heap.size 5 D1 (Maps.has D1) (Maps.size D1) from rg6)
  have G5 := Lib.hid (grown_trans (grown_trans (grown_trans (grown_trans g1 g2) g3) g4) g5)
  have hmb : w.heap.size + 1 + 1 < w5.heap.size := by have := G5.out.size; have := HS.out; omega
  have hBM := HB.out.grown G5.out (by have := HS.out; omega) (fun k hk => by injection hk with hk; omega)
  have HB6 := Lib.hid (hBM.grown g6 hBM.size (fun k hk => by cases hk))
  have HT6 := Lib.hid (((HT.out.grown G5.out (by simp)).grown g6 (by simp)).congr fun j _ => (tb1_start j).symm)
  have HR6 := Lib.hid ((HR.out.grown G5.out (by simp; omega)).grown g6 (by simp))
  clear rg6 m1 m2 m3 m4 m5 g1 g2 g3 g4 g5 g6 hBM
  rw [r1]
  go_simp
  go_wp2
  go_loopw [2] (fun _ wr => ∃ left cnt, Hid (wr.ranges Try.prog 95 (plainElem Try.prog 3) (w.heap.size + 1 + 1) w5.heap.size 5 D1 left cnt) ∧ Hid (Blk wr w.heap.size 185 (w.heap.size + 1) 52 (tb1 left)) ∧ Hid (Blk wr w.heap.size 185 w.heap.size 52 (fun _ => .int .i64 0)) ∧ Hid (Below w.heap.size w wr) ∧ Hid (∀ z, left z = true → Maps.has D1 z = true)) (fun _ wr => wr.rangeLeft (w.heap.size + 1 + 1) w5.heap.size)
  case atStart => exact ⟨_, _, RG, HT6, HR6, HB6, Lib.hid fun _ h => h⟩
  case round =>
    obtain ⟨left, cnt, HRG, HT1, HR1, HB1, HL⟩ := hrel
    rcases HRG.out.next law95 0 with ⟨h0, hl, hrun⟩ | ⟨key, v, kl, y, w', cnt', hkey, hlk, hv, hat, hrun, hrg, hlt, hgr, hsz, hen⟩
    · have HTA := Lib.hid (HT1.out.congr fun j _ => tb1_end hl j)
      have hB2 : Below w.heap.size w (wr.alloc (.map #[] 0)) := HB1.out.alloc HB1.out.size _
      have hM2 : (wr.alloc (.map #[] 0)).ownsMap (H := Unit) Try.prog 95 (plainElem Try.prog 3) wr.heap.size 0 (.map []) := World.ownsMap_made (H := Unit) wr Try.prog 95 (plainElem Try.prog 3)
      have hTs := HTA.out.lt.2
      have hRs := HR1.out.lt.2
      have HT2 := Lib.hid (HTA.out.kept (w' := wr.alloc (.map #[] 0)) (Below.heap_alloc _ _ _ hTs))
      have HR2 := Lib.hid (HR1.out.kept (w' := wr.alloc (.map #[] 0)) (Below.heap_alloc _ _ _ hRs))
      have HB2 := Lib.hid hB2
      have HM2 := Lib.hid hM2
      clear hB2 hM2 HTA HT1 HR1 HB1 HRG HL hl
      go_wp2
      generalize (wr.alloc (.map #[] 0)) = v0 at *
      obtain ⟨v1, q1, m1, g1⟩ := HM2.out.update law95 Try.underlying211 (by decide) (keyOf_int_mk (a := 2) Try.underlying95 (by decide)) (plainElem_int (a := 1) Try.underlying3 (by decide))
      obtain ⟨v2, q2, m2, g2⟩ := m1.update law95 Try.underlying211 (by decide) (keyOf_int_mk (a := 3) Try.underlying95 (by decide)) (plainElem_int (a := 1) Try.underlying3 (by decide))
      obtain ⟨v3, q3, m3, g3⟩ := m2.update law95 Try.underlying211 (by decide) (keyOf_int_mk (a := 4) Try.underlying95 (by decide)) (plainElem_int (a := 1) Try.underlying3 (by decide))
      obtain ⟨v4, q4, m4, g4⟩ := m3.update law95 Try.underlying211 (by decide) (keyOf_int_mk (a := 5) Try.underlying95 (by decide)) (plainElem_int (a := 2) Try.underlying3 (by decide))
      obtain ⟨v5, q5, m5, g5⟩ := m4.update law95 Try.underlying211 (by decide) (keyOf_int_mk (a := 6) Try.underlying95 (by decide)) (plainElem_int (a := 0) Try.underlying3 (by decide))
      obtain ⟨v6, q6, m6, g6⟩ := m5.update law95 Try.underlying211 (by decide) (keyOf_int_mk (a := 7) Try.underlying95 (by decide)) (plainElem_int (a := 0) Try.underlying3 (by decide))
      obtain ⟨v7, q7, m7, g7⟩ := m6.update law95 Try.underlying211 (by decide) (keyOf_int_mk (a := 8) Try.underlying95 (by decide)) (plainElem_int (a := 0) Try.underlying3 (by decide))
      obtain ⟨v8, q8, m8, g8⟩ := m7.update law95 Try.underlying211 (by decide) (keyOf_int_mk (a := 9) Try.underlying95 (by decide)) (plainElem_int (a := 3) Try.underlying3 (by decide))
      obtain ⟨v9, q9, rg9, g9, s9⟩ := m8.range law95 Try.underlying211
      have RG2 := Lib.hid (show v9.ranges Try.prog 95 (plainElem Try.prog 3) wr.heap.size v8.heap.size 8 D2 (Maps.has D2) (Maps.size D2) from rg9)
      have G8 := Lib.hid (grown_trans (grown_trans (grown_trans (grown_trans (grown_trans (grown_trans (grown_trans g1 g2) g3) g4) g5) g6) g7) g8)
      have hsz8 : w.heap.size ≤ v8.heap.size := Nat.le_trans HB2.out.size G8.out.size
      have hwr : w.heap.size + 1 < wr.heap.size := hTs
      have hv0 : w.heap.size + 1 < v8.heap.size := Nat.lt_of_lt_of_le HT2.out.lt.2 G8.out.size
      have hB8 := HB2.out.grown G8.out HB2.out.size (fun k hk => by injection hk with hk; omega)
      have HB9 := Lib.hid (hB8.grown g9 hB8.size (fun k hk => by cases hk))
      have HT9 := Lib.hid (((HT2.out.grown G8.out (by simp; omega)).grown g9 (by simp)).congr fun j _ => (tb2_start j).symm)
      have HR9 := Lib.hid ((HR2.out.grown G8.out (by simp; omega)).grown g9 (by simp))
      clear rg9 m1 m2 m3 m4 m5 m6 m7 m8 g1 g2 g3 g4 g5 g6 g7 g8 g9 hB8 G8 HB2 HT2 HR2 HM2 G5 HB6 HT6 HR6 HB HM HR HT RG r1 r2 r3 r4 r5 r6
      rw [q1]
      go_simp
      go_wp2
      obtain ⟨wo, rfl⟩ : ∃ x, x = wr := ⟨_, rfl⟩
      go_loopw [4] (fun _ wr => ∃ left cnt, Hid (wr.ranges Try.prog 95 (plainElem Try.prog 3) wo.heap.size v8.heap.size 8 D2 left cnt) ∧ Hid (Blk wr w.heap.size 185 (w.heap.size + 1) 52 (tb2 left)) ∧ Hid (Blk wr w.heap.size 185 w.heap.size 52 (fun _ => .int .i64 0)) ∧ Hid (Below w.heap.size w wr) ∧ Hid (∀ z, left z = true → Maps.has D2 z = true)) (fun _ wr => wr.rangeLeft wo.heap.size v8.heap.size)
      case atStart => exact ⟨_, _, RG2, HT9, HR9, HB9, Lib.hid fun _ h => h⟩
      case round =>
        obtain ⟨left, cnt, HRG, HT1, HR1, HB1, HL⟩ := hrel
        rcases HRG.out.next law95 0 with ⟨h0, hl, hrun⟩ | ⟨key, v, kl, y, w', cnt', hkey, hlk, hv, hat, hrun, hrg, hlt, hgr, hsz, hen⟩
        · have HTA := Lib.hid (HT1.out.congr fun j _ => tb2_end hl j)
          have hq1 := (HTA.out.cell (j := 32) (by omega)).1
          have hq2 := (HTA.out.cell (j := 32) (by omega)).2
          generalize Value.int .i64 (rowA 32 + rowB 32) = old at hq1
          have hTF := (HTA.out.set 32 (.int .i64 1)).congr (g := tabV) fun j _ => by
            unfold tabV
            by_cases h : j = 32
            · rw [if_pos h, if_pos h]
            · rw [if_neg h, if_neg h]
          have hRF := HR1.out.kept (Below.heap_setCell wr ⟨w.heap.size + 1, 32, none⟩ (.int .i64 1) w.heap.size (by simp))
          have hlv := run_loadVar_mid (P := Try.prog) _ _ _ 185 tabL _ (World.rangeAt_setCells_same _ w.heap.size 0 tabL hRF.there) Try.underlying185 rfl info185
          have HLV := Lib.hid hlv
          have HBF := Lib.hid (below_setCells (HB1.out.setCell (p := ⟨w.heap.size + 1, 32, none⟩) (by simp) (.int .i64 1)) (Nat.le_refl _) 0 tabL)
          have HRN := Lib.hid (show World.rangeAt _ _ 0 tabL from hTF.range)
          have HTH := Lib.hid (show World.there _ w.heap.size 0 tabL.toArray.size from hRF.there)
          have HI5 := Lib.hid (show (Try.prog.info? 185).map (·.size) = some tabL.length from info185)
          have HI6 := Lib.hid (show (Try.prog.info? 185).map (·.size) = some tabL.toArray.size from info185)
          have HON := Lib.hid tabL_one
          clear hlv hTF hRF HTA HT1 HR1 HB1 HRG HL hl
          obtain ⟨tl, htl⟩ : ∃ tl, tl = tabL := ⟨_, rfl⟩
          rw [← htl] at HLV HBF HRN HTH HI5 HI6 HON
          have HTL := Lib.hid htl
          clear htl
          go_wp2_with (first
            | (refine wpList_load_mid (by rfl) 185 (.tmp 1) (by rfl) (w.heap.size + 1) 0 (by rfl) tl _ HRN.out Try.underlying185 rfl HI5.out ?_)
            | (refine wpList_store_mid (by rfl) 185 (.tmp 0) (.tmp 34) (by rfl) w.heap.size 0 tl.toArray (by rfl) (by rfl) HTH.out HI6.out HON.out ?_))
          go_frame
          refine bodyPost_ret (v := .agg tl.toArray) (by simp [results, Try.results116, asAddr, HLV.out]) rfl ?_
          exact ⟨by rw [HTL.out], HBF.out⟩
        · obtain ⟨x, rfl, rfl, hwx⟩ := keyOf_int_inv Try.underlying95 hkey
          obtain ⟨c, rfl, rfl, hwc⟩ := plainElem_int_inv Try.underlying3 hv
          have hx0 := D2_has.1 (HL.out _ hlk)
          have hx : x = 2 ∨ x = 3 ∨ x = 4 ∨ x = 5 ∨ x = 6 ∨ x = 7 ∨ x = 8 ∨ x = 9 := by omega
          have hc := (D2_at x (.nil) hx).symm.trans (hat .nil)
          simp only [DataW.lit.injEq, Lit.int.injEq, true_and] at hc
          have HRG2 := Lib.hid hrg
          have HLK := Lib.hid (HRG.out.left_eq)
          have HLT := Lib.hid hlt
          have HT2 := Lib.hid (HT1.out.grown hgr (by simp; omega))
          have HR2 := Lib.hid (HR1.out.grown hgr (by simp; omega))
          have HB2 := Lib.hid (HB1.out.grown hgr HB1.out.size (fun k hk => by injection hk with hk; omega))
          have HL2 := Lib.hid (fun z (h : (left z && !z.sameKey (li x)) = true) => HL.out z (by simp at h; exact h.1))
          clear hrg hlt hgr hsz hat hv hkey hlk hwx hwc HRG HT1 HR1 HB1 HL hx0
          rcases hx with rfl | rfl | rfl | rfl | rfl | rfl | rfl | rfl
          · simp at hc
            subst hc
            have hq1 := (HT2.out.cell (j := 15) (by omega)).1
            have hq2 := (HT2.out.cell (j := 15) (by omega)).2
            generalize tb2 left 15 = old at hq1
            have HF := Lib.hid ((HT2.out.set 15 (.int .i64 2)).congr fun j _ => tb2_step (x := 2) (by rfl) j)
            have HR3 := Lib.hid (HR2.out.kept (Below.heap_setCell w' ⟨w.heap.size + 1, 15, none⟩ (.int .i64 2) w.heap.size (by simp)))
            have HB3 := Lib.hid (HB2.out.setCell (p := ⟨w.heap.size + 1, 15, none⟩) (by simp) (.int .i64 2))
            have HRG3 := Lib.hid (HRG2.out.kept (grown_set w' ⟨w.heap.size + 1, 15, none⟩ (.int .i64 2)) (by simp; omega) (by simp; omega))
            clear HT2 HR2 HB2 HRG2
            go_wp2
            go_roundw
            case rel => exact ⟨_, _, HRG3, HF, HR3, HB3, HL2⟩
            case measure => rw [HRG3.out.left_eq, HLK.out]; exact HLT.out
          · simp at hc
            subst hc
            have hq1 := (HT2.out.cell (j := 16) (by omega)).1
            have hq2 := (HT2.out.cell (j := 16) (by omega)).2
            generalize tb2 left 16 = old at hq1
            have HF := Lib.hid ((HT2.out.set 16 (.int .i64 2)).congr fun j _ => tb2_step (x := 3) (by rfl) j)
            have HR3 := Lib.hid (HR2.out.kept (Below.heap_setCell w' ⟨w.heap.size + 1, 16, none⟩ (.int .i64 2) w.heap.size (by simp)))
            have HB3 := Lib.hid (HB2.out.setCell (p := ⟨w.heap.size + 1, 16, none⟩) (by simp) (.int .i64 2))
            have HRG3 := Lib.hid (HRG2.out.kept (grown_set w' ⟨w.heap.size + 1, 16, none⟩ (.int .i64 2)) (by simp; omega) (by simp; omega))
            clear HT2 HR2 HB2 HRG2
            go_wp2
            go_roundw
            case rel => exact ⟨_, _, HRG3, HF, HR3, HB3, HL2⟩
            case measure => rw [HRG3.out.left_eq, HLK.out]; exact HLT.out
          · simp at hc
            subst hc
            have hq1 := (HT2.out.cell (j := 17) (by omega)).1
            have hq2 := (HT2.out.cell (j := 17) (by omega)).2
            generalize tb2 left 17 = old at hq1
            have HF := Lib.hid ((HT2.out.set 17 (.int .i64 2)).congr fun j _ => tb2_step (x := 4) (by rfl) j)
            have HR3 := Lib.hid (HR2.out.kept (Below.heap_setCell w' ⟨w.heap.size + 1, 17, none⟩ (.int .i64 2) w.heap.size (by simp)))
            have HB3 := Lib.hid (HB2.out.setCell (p := ⟨w.heap.size + 1, 17, none⟩) (by simp) (.int .i64 2))
            have HRG3 := Lib.hid (HRG2.out.kept (grown_set w' ⟨w.heap.size + 1, 17, none⟩ (.int .i64 2)) (by simp; omega) (by simp; omega))
            clear HT2 HR2 HB2 HRG2
            go_wp2
            go_roundw
            case rel => exact ⟨_, _, HRG3, HF, HR3, HB3, HL2⟩
            case measure => rw [HRG3.out.left_eq, HLK.out]; exact HLT.out
          · simp at hc
            subst hc
            have hq1 := (HT2.out.cell (j := 18) (by omega)).1
            have hq2 := (HT2.out.cell (j := 18) (by omega)).2
            generalize tb2 left 18 = old at hq1
            have HF := Lib.hid ((HT2.out.set 18 (.int .i64 3)).congr fun j _ => tb2_step (x := 5) (by rfl) j)
            have HR3 := Lib.hid (HR2.out.kept (Below.heap_setCell w' ⟨w.heap.size + 1, 18, none⟩ (.int .i64 3) w.heap.size (by simp)))
            have HB3 := Lib.hid (HB2.out.setCell (p := ⟨w.heap.size + 1, 18, none⟩) (by simp) (.int .i64 3))
            have HRG3 := Lib.hid (HRG2.out.kept (grown_set w' ⟨w.heap.size + 1, 18, none⟩ (.int .i64 3)) (by simp; omega) (by simp; omega))
            clear HT2 HR2 HB2 HRG2
            go_wp2
            go_roundw
            case rel => exact ⟨_, _, HRG3, HF, HR3, HB3, HL2⟩
            case measure => rw [HRG3.out.left_eq, HLK.out]; exact HLT.out
          · simp at hc
            subst hc
            have hq1 := (HT2.out.cell (j := 19) (by omega)).1
            have hq2 := (HT2.out.cell (j := 19) (by omega)).2
            generalize tb2 left 19 = old at hq1
            have HF := Lib.hid ((HT2.out.set 19 (.int .i64 1)).congr fun j _ => tb2_step (x := 6) (by rfl) j)
            have HR3 := Lib.hid (HR2.out.kept (Below.heap_setCell w' ⟨w.heap.size + 1, 19, none⟩ (.int .i64 1) w.heap.size (by simp)))
            have HB3 := Lib.hid (HB2.out.setCell (p := ⟨w.heap.size + 1, 19, none⟩) (by simp) (.int .i64 1))
            have HRG3 := Lib.hid (HRG2.out.kept (grown_set w' ⟨w.heap.size + 1, 19, none⟩ (.int .i64 1)) (by simp; omega) (by simp; omega))
            clear HT2 HR2 HB2 HRG2
            go_wp2
            go_roundw
            case rel => exact ⟨_, _, HRG3, HF, HR3, HB3, HL2⟩
            case measure => rw [HRG3.out.left_eq, HLK.out]; exact HLT.out
          · simp at hc
            subst hc
            have hq1 := (HT2.out.cell (j := 20) (by omega)).1
            have hq2 := (HT2.out.cell (j := 20) (by omega)).2
            generalize tb2 left 20 = old at hq1
            have HF := Lib.hid ((HT2.out.set 20 (.int .i64 1)).congr fun j _ => tb2_step (x := 7) (by rfl) j)
            have HR3 := Lib.hid (HR2.out.kept (Below.heap_setCell w' ⟨w.heap.size + 1, 20, none⟩ (.int .i64 1) w.heap.size (by simp)))
            have HB3 := Lib.hid (HB2.out.setCell (p := ⟨w.heap.size + 1, 20, none⟩) (by simp) (.int .i64 1))
            have HRG3 := Lib.hid (HRG2.out.kept (grown_set w' ⟨w.heap.size + 1, 20, none⟩ (.int .i64 1)) (by simp; omega) (by simp; omega))
            clear HT2 HR2 HB2 HRG2
            go_wp2
            go_roundw
            case rel => exact ⟨_, _, HRG3, HF, HR3, HB3, HL2⟩
            case measure => rw [HRG3.out.left_eq, HLK.out]; exact HLT.out
          · simp at hc
            subst hc
            have hq1 := (HT2.out.cell (j := 21) (by omega)).1
            have hq2 := (HT2.out.cell (j := 21) (by omega)).2
            generalize tb2 left 21 = old at hq1
            have HF := Lib.hid ((HT2.out.set 21 (.int .i64 1)).congr fun j _ => tb2_step (x := 8) (by rfl) j)
            have HR3 := Lib.hid (HR2.out.kept (Below.heap_setCell w' ⟨w.heap.size + 1, 21, none⟩ (.int .i64 1) w.heap.size (by simp)))
            have HB3 := Lib.hid (HB2.out.setCell (p := ⟨w.heap.size + 1, 21, none⟩) (by simp) (.int .i64 1))
            have HRG3 := Lib.hid (HRG2.out.kept (grown_set w' ⟨w.heap.size + 1, 21, none⟩ (.int .i64 1)) (by simp; omega) (by simp; omega))
            clear HT2 HR2 HB2 HRG2
            go_wp2
            go_roundw
            case rel => exact ⟨_, _, HRG3, HF, HR3, HB3, HL2⟩
            case measure => rw [HRG3.out.left_eq, HLK.out]; exact HLT.out
          · simp at hc
            subst hc
            have hq1 := (HT2.out.cell (j := 22) (by omega)).1
            have hq2 := (HT2.out.cell (j := 22) (by omega)).2
            generalize tb2 left 22 = old at hq1
            have HF := Lib.hid ((HT2.out.set 22 (.int .i64 4)).congr fun j _ => tb2_step (x := 9) (by rfl) j)
            have HR3 := Lib.hid (HR2.out.kept (Below.heap_setCell w' ⟨w.heap.size + 1, 22, none⟩ (.int .i64 4) w.heap.size (by simp)))
            have HB3 := Lib.hid (HB2.out.setCell (p := ⟨w.heap.size + 1, 22, none⟩) (by simp) (.int .i64 4))
            have HRG3 := Lib.hid (HRG2.out.kept (grown_set w' ⟨w.heap.size + 1, 22, none⟩ (.int .i64 4)) (by simp; omega) (by simp; omega))
            clear HT2 HR2 HB2 HRG2
            go_wp2
            go_roundw
            case rel => exact ⟨_, _, HRG3, HF, HR3, HB3, HL2⟩
            case measure => rw [HRG3.out.left_eq, HLK.out]; exact HLT.out
    · obtain ⟨x, rfl, rfl, hwx⟩ := keyOf_int_inv Try.underlying95 hkey
      obtain ⟨c, rfl, rfl, hwc⟩ := plainElem_int_inv Try.underlying3 hv
      have hx := D1_has.1 (HL.out _ hlk)
      have hc := (D1_at x (.nil) hx).symm.trans (hat .nil)
      simp only [DataW.lit.injEq, Lit.int.injEq, true_and] at hc
      have HRG2 := Lib.hid hrg
      have HLK := Lib.hid (HRG.out.left_eq)
      have HLK2 := Lib.hid (hrg.left_eq)
      have HLT := Lib.hid hlt
      have HT2 := Lib.hid (HT1.out.grown hgr (by simp; omega))
      have HR2 := Lib.hid (HR1.out.grown hgr (by simp; omega))
      have HB2 := Lib.hid (HB1.out.grown hgr HB1.out.size (fun k hk => by injection hk with hk; omega))
      have HL2 := Lib.hid (fun z (h : (left z && !z.sameKey (li x)) = true) => HL.out z (by simp at h; exact h.1))
      clear hrg hlt hgr hsz hat hv hkey hlk hwx hwc HRG HT1 HR1 HB1 HL
      rcases hx with rfl | rfl | rfl | rfl | rfl
      · simp at hc
        subst hc
        have hq1 := (HT2.out.cell (j := 1) (by omega)).1
        have hq2 := (HT2.out.cell (j := 1) (by omega)).2
        generalize tb1 left 1 = old at hq1
        have HF := Lib.hid ((HT2.out.set 1 (.int .i64 2)).congr fun j _ => tb1_step (x := 1) (by rfl) j)
        have HR3 := Lib.hid (HR2.out.kept (Below.heap_setCell w' ⟨w.heap.size + 1, 1, none⟩ (.int .i64 2) w.heap.size (by simp)))
        have HB3 := Lib.hid (HB2.out.setCell (p := ⟨w.heap.size + 1, 1, none⟩) (by simp) (.int .i64 2))
        have HRG3 := Lib.hid (HRG2.out.kept (grown_set w' ⟨w.heap.size + 1, 1, none⟩ (.int .i64 2)) (by simp) (by simp; omega))
        clear HT2 HR2 HB2 HRG2
        go_wp2
        go_roundw
        case rel => exact ⟨_, _, HRG3, HF, HR3, HB3, HL2⟩
        case measure => rw [HRG3.out.left_eq, HLK.out]; exact HLT.out
      · simp at hc
        subst hc
        have hq1 := (HT2.out.cell (j := 9) (by omega)).1
        have hq2 := (HT2.out.cell (j := 9) (by omega)).2
        generalize tb1 left 9 = old at hq1
        have HF := Lib.hid ((HT2.out.set 9 (.int .i64 4)).congr fun j _ => tb1_step (x := 9) (by rfl) j)
        have HR3 := Lib.hid (HR2.out.kept (Below.heap_setCell w' ⟨w.heap.size + 1, 9, none⟩ (.int .i64 4) w.heap.size (by simp)))
        have HB3 := Lib.hid (HB2.out.setCell (p := ⟨w.heap.size + 1, 9, none⟩) (by simp) (.int .i64 4))
        have HRG3 := Lib.hid (HRG2.out.kept (grown_set w' ⟨w.heap.size + 1, 9, none⟩ (.int .i64 4)) (by simp) (by simp; omega))
        clear HT2 HR2 HB2 HRG2
        go_wp2
        go_roundw
        case rel => exact ⟨_, _, HRG3, HF, HR3, HB3, HL2⟩
        case measure => rw [HRG3.out.left_eq, HLK.out]; exact HLT.out
      · simp at hc
        subst hc
        have hq1 := (HT2.out.cell (j := 10) (by omega)).1
        have hq2 := (HT2.out.cell (j := 10) (by omega)).2
        generalize tb1 left 10 = old at hq1
        have HF := Lib.hid ((HT2.out.set 10 (.int .i64 1)).congr fun j _ => tb1_step (x := 10) (by rfl) j)
        have HR3 := Lib.hid (HR2.out.kept (Below.heap_setCell w' ⟨w.heap.size + 1, 10, none⟩ (.int .i64 1) w.heap.size (by simp)))
        have HB3 := Lib.hid (HB2.out.setCell (p := ⟨w.heap.size + 1, 10, none⟩) (by simp) (.int .i64 1))
        have HRG3 := Lib.hid (HRG2.out.kept (grown_set w' ⟨w.heap.size + 1, 10, none⟩ (.int .i64 1)) (by simp) (by simp; omega))
        clear HT2 HR2 HB2 HRG2
        go_wp2
        go_roundw
        case rel => exact ⟨_, _, HRG3, HF, HR3, HB3, HL2⟩
        case measure => rw [HRG3.out.left_eq, HLK.out]; exact HLT.out
      · simp at hc
        subst hc
        have hq1 := (HT2.out.cell (j := 11) (by omega)).1
        have hq2 := (HT2.out.cell (j := 11) (by omega)).2
        generalize tb1 left 11 = old at hq1
        have HF := Lib.hid ((HT2.out.set 11 (.int .i64 1)).congr fun j _ => tb1_step (x := 11) (by rfl) j)
        have HR3 := Lib.hid (HR2.out.kept (Below.heap_setCell w' ⟨w.heap.size + 1, 11, none⟩ (.int .i64 1) w.heap.size (by simp)))
        have HB3 := Lib.hid (HB2.out.setCell (p := ⟨w.heap.size + 1, 11, none⟩) (by simp) (.int .i64 1))
        have HRG3 := Lib.hid (HRG2.out.kept (grown_set w' ⟨w.heap.size + 1, 11, none⟩ (.int .i64 1)) (by simp) (by simp; omega))
        clear HT2 HR2 HB2 HRG2
        go_wp2
        go_roundw
        case rel => exact ⟨_, _, HRG3, HF, HR3, HB3, HL2⟩
        case measure => rw [HRG3.out.left_eq, HLK.out]; exact HLT.out
      · simp at hc
        subst hc
        have hq1 := (HT2.out.cell (j := 12) (by omega)).1
        have hq2 := (HT2.out.cell (j := 12) (by omega)).2
        generalize tb1 left 12 = old at hq1
        have HF := Lib.hid ((HT2.out.set 12 (.int .i64 4)).congr fun j _ => tb1_step (x := 12) (by rfl) j)
        have HR3 := Lib.hid (HR2.out.kept (Below.heap_setCell w' ⟨w.heap.size + 1, 12, none⟩ (.int .i64 4) w.heap.size (by simp)))
        have HB3 := Lib.hid (HB2.out.setCell (p := ⟨w.heap.size + 1, 12, none⟩) (by simp) (.int .i64 4))
        have HRG3 := Lib.hid (HRG2.out.kept (grown_set w' ⟨w.heap.size + 1, 12, none⟩ (.int .i64 4)) (by simp) (by simp; omega))
        clear HT2 HR2 HB2 HRG2
        go_wp2
        go_roundw
        case rel => exact ⟨_, _, HRG3, HF, HR3, HB3, HL2⟩
        case measure => rw [HRG3.out.left_eq, HLK.out]; exact HLT.out
end Go.Proofs.Ytjifpjfinffamaa
end
section
namespace Go.Proofs.Ytjifpjfinffamaa
open Go.RowKit Go.Maps
theorem law40 : Keyed Try.prog 40 := int_keyed Try.underlying40
abbrev lu (x : Int) : Lit := .int .u64 x
structure MDw (D : DataW Unit) (l : List (Int × Int)) : Prop where
  tidy : Tidy D
  has : ∀ a, Maps.has D (lu a) = (wrt l a).isSome
  at_ : ∀ a v, wrt l a = some v → ∀ z, D.atKey (lu a) z = .lit (lu v)
  size : Maps.size D = 0 ↔ l.length = 0
theorem MDw.start : MDw (.map []) [] := ⟨tidy_empty, fun a => rfl, fun a v h => by simp [wrt] at h, by simp [Maps.size]⟩
theorem MDw.put {D : DataW Unit} {l : List (Int × Int)} (h : MDw D l) (a v : Int) : MDw (D.put (lu a) (.lit (lu v))) (l ++ [(a, v)]) := by
  have hk : WideAt.IsKeyLit (lu a) := trivial
  have hm : IsMap D := h.tidy.isMap
  refine ⟨h.tidy.put hk _, fun c => ?_, fun c u hc z => ?_, ?_⟩
  · rw [wrt_snoc]
    by_cases e : a = c
    · subst e
      rw [if_pos rfl, has_put_same hm hk]
      rfl
    · rw [if_neg e, has_put_other (by intro h; injection h with _ h; exact e h.symm)]
      exact h.has c
  · rw [wrt_snoc] at hc
    by_cases e : a = c
    · subst e
      rw [if_pos rfl] at hc
      injection hc with hc
      subst hc
      exact atKey_put_same hm hk _ _
    · rw [if_neg e] at hc
      rw [atKey_put_other (by intro h; injection h with _ h; exact e h.symm)]
      exact h.at_ c u hc z
  · rw [size_put h.tidy]
    constructor
    · intro h1
      split at h1
      · rename_i h2
        rw [h.has] at h2
        have := h.size.1 h1
        rw [List.eq_nil_of_length_eq_zero this] at h2
        cases h2
      · omega
    · intro h1
      simp at h1
theorem tab_next {hw kk : Nat} (h4 : hw < 4) (hk : 1 ≤ kk ∧ kk ≤ 12) (er : Int) : ∃ tv : Int, tabV (hw * 13 + kk) = .int .i64 tv ∧ (nextI hw kk er < 0 ↔ tv = 0 ∨ (hw = 0 ∧ kk = 9 ∧ er ≠ 4)) ∧ (0 ≤ nextI hw kk er → tv - 1 = nextI hw kk er) := by
  refine ⟨_, rfl, ?_, ?_⟩
  all_goals
    have hh : hw = 0 ∨ hw = 1 ∨ hw = 2 ∨ hw = 3 := by omega
    have hkk : kk = 1 ∨ kk = 2 ∨ kk = 3 ∨ kk = 4 ∨ kk = 5 ∨ kk = 6 ∨ kk = 7 ∨ kk = 8 ∨ kk = 9 ∨ kk = 10 ∨ kk = 11 ∨ kk = 12 := by omega
    rcases hh with rfl | rfl | rfl | rfl <;> rcases hkk with rfl | rfl | rfl | rfl | rfl | rfl | rfl | rfl | rfl | rfl | rfl | rfl <;> simp [nextI, rowA, rowB] <;> (try split) <;> omega
def Shape (M : Nat) (vs : List Value) : Prop := ∀ (q : Nat) x, vs[q]? = some x → if q % 7 = 3 then ∃ y, x = .int .u64 y else ∃ y : Int, x = .int .i64 y ∧ (5 ≤ q % 7 → 0 ≤ y ∧ y ≤ M)
def lF (s : SS) (mp : Nat → Option Nat) (tr : Nat → Int) (hd : Int) (At : Option Addr) (nt ct : Nat) (i : Nat) : Value :=
  if i < 52 then tabV i else if i = 84 then .int .u64 s.num else if i = 85 then .int .i64 hd else if i = 86 then .slice At nt ct
  else if i % 4 = 0 then .int .i64 (s.t ((i - 52) / 4)).how else if i % 4 = 1 then .int .u64 (s.t ((i - 52) / 4)).snap else if i % 4 = 2 then .map (mp ((i - 52) / 4)) else .int .i64 (tr ((i - 52) / 4))
def Act_ (h : Int) : Prop := h = 1 ∨ h = 2
structure LInv (w : World) (base b m : Nat) (s : SS) (mp : Nat → Option Nat) (tr : Nat → Int) (hd : Int) (At : Option Addr) (ct nt : Nat) (vs : List Value) : Prop where
  blk : Blk w base 193 b 87 (lF s mp tr hd At nt ct)
  trs : w.ownsRow base 214 7 (.slice At nt ct) nt vs
  shape : Shape m vs
  maps : ∀ i, i < 8 → Act_ (s.t i).how → (∃ g n D, mp i = some g ∧ base ≤ g ∧ n ≤ m ∧ w.ownsMap (H := Unit) Try.prog 40 (plainElem Try.prog 40) g n D ∧ MDw D (s.t i).wr) ∧ 0 ≤ tr i ∧ tr i < nt
  apart : ∀ i j, i < 8 → j < 8 → i ≠ j → Act_ (s.t i).how → Act_ (s.t j).how → mp i ≠ mp j
  hold : (hd = -1 ∧ ∀ i, i < 8 → (s.t i).how ≠ 2) ∨ ∃ i : Nat, i < 8 ∧ hd = i ∧ (s.t i).how = 2 ∧ ∀ j, j < 8 → j ≠ i → (s.t j).how ≠ 2
  snap : ∀ i, i < 8 → 0 ≤ (s.t i).snap ∧ (s.t i).snap < 18446744073709551616
  how : ∀ i, i < 8 → 0 ≤ (s.t i).how ∧ (s.t i).how < 4
  few : nt ≤ m
structure LC (w : World) (b : Nat) (s : SS) (mp : Nat → Option Nat) (tr : Nat → Int) (hd : Int) (At : Option Addr) (nt ct : Nat) : Prop where
  tab : ∀ j, j < 52 → w.cell? ⟨b, j, none⟩ = some (tabV j)
  how : ∀ i, i < 8 → w.cell? ⟨b, 52 + i * 4, none⟩ = some (.int .i64 (s.t i).how)
  snap : ∀ i, i < 8 → w.cell? ⟨b, 52 + i * 4 + 1, none⟩ = some (.int .u64 (s.t i).snap)
  map : ∀ i, i < 8 → w.cell? ⟨b, 52 + i * 4 + 2, none⟩ = some (.map (mp i))
  try_ : ∀ i, i < 8 → w.cell? ⟨b, 52 + i * 4 + 3, none⟩ = some (.int .i64 (tr i))
  num : w.cell? ⟨b, 84, none⟩ = some (.int .u64 s.num)
  hd : w.cell? ⟨b, 85, none⟩ = some (.int .i64 hd)
  trs : w.cell? ⟨b, 86, none⟩ = some (.slice At nt ct)
section
variable {w w' : World} {base b m : Nat} {s : SS} {mp : Nat → Option Nat} {tr : Nat → Int} {hd : Int} {At : Option Addr} {ct nt : Nat} {vs : List Value}
theorem LInv.cells (h : LInv w base b m s mp tr hd At ct nt vs) : LC w b s mp tr hd At nt ct := by
  refine ⟨fun j hj => ?_, fun i hi => ?_, fun i hi => ?_, fun i hi => ?_, fun i hi => ?_, ?_, ?_, ?_⟩
  · rw [(h.blk.cell (j := j) (by omega)).1, lF, if_pos hj]
  · rw [(h.blk.cell (j := 52 + i * 4) (by omega)).1, lF, if_neg (by omega), if_neg (by omega), if_neg (by omega), if_neg (by omega), if_pos (by omega), show (52 + i * 4 - 52) / 4 = i by omega]
  · rw [(h.blk.cell (j := 52 + i * 4 + 1) (by omega)).1, lF, if_neg (by omega), if_neg (by omega), if_neg (by omega), if_neg (by omega), if_neg (by omega), if_pos (by omega), show (52 + i * 4 + 1 - 52) / 4 = i by omega]
  · rw [(h.blk.cell (j := 52 + i * 4 + 2) (by omega)).1, lF, if_neg (by omega), if_neg (by omega), if_neg (by omega), if_neg (by omega), if_neg (by omega), if_neg (by omega), if_pos (by omega), show (52 + i * 4 + 2 - 52) / 4 = i by omega]
  · rw [(h.blk.cell (j := 52 + i * 4 + 3) (by omega)).1, lF, if_neg (by omega), if_neg (by omega), if_neg (by omega), if_neg (by omega), if_neg (by omega), if_neg (by omega), if_neg (by omega), show (52 + i * 4 + 3 - 52) / 4 = i by omega]
  · rw [(h.blk.cell (j := 84) (by omega)).1]; rfl
  · rw [(h.blk.cell (j := 85) (by omega)).1]; rfl
  · rw [(h.blk.cell (j := 86) (by omega)).1]; rfl
theorem LInv.kept (h : LInv w base b m s mp tr hd At ct nt vs) (hb : Below w.heap.size w w') : LInv w' base b m s mp tr hd At ct nt vs := by
  refine ⟨h.blk.below h.blk.lt.2 hb, ?_, h.shape, fun i hi ha => ?_, h.apart, h.hold, h.snap, h.how, h.few⟩
  · refine ⟨h.trs.1, ?_⟩
    rcases h.trs.2 with h2 | ⟨g, cap, cur, hv, hbg, hh, h3⟩
    · exact .inl h2
    · exact .inr ⟨g, cap, cur, hv, hbg, (hb.block g (Array.getElem?_eq_some_iff.1 hh).1).trans hh, h3⟩
  · obtain ⟨⟨g, n, D, h1, h2, h3, ⟨es, ck, h4, h5⟩, h6⟩, h7⟩ := h.maps i hi ha
    exact ⟨⟨g, n, D, h1, h2, h3, ⟨es, ck, (hb.block g (Array.getElem?_eq_some_iff.1 h4).1).trans h4, h5⟩, h6⟩, h7⟩
theorem LInv.lock (h : LInv w base b m s mp tr hd At ct nt vs) {t : Nat} (ht : (s.t t).how ≠ 2) : lockedB s t = true ↔ 0 ≤ hd := by
  unfold lockedB
  rw [List.any_eq_true]
  rcases h.hold with ⟨rfl, h1⟩ | ⟨i, hi, rfl, h1, h2⟩
  · constructor
    · rintro ⟨j, hj, h2⟩
      simp at h2
      exact absurd h2.2 (h1 j (List.mem_range.1 hj))
    · intro h2; omega
  · constructor
    · intro _; omega
    · intro _
      exact ⟨i, List.mem_range.2 hi, by simp [h1]; intro e; subst e; exact ht h1⟩
end
end Go.Proofs.Ytjifpjfinffamaa
end
section
namespace Go.Proofs.Ytjifpjfinffamaa
open Go.RowKit Go.Maps
theorem zero3 (w : World) : (zeroValue 3).run Try.prog w = .ok (.int .i64 0) w := by kernel_rfl
theorem tkey (t : Int) (h0 : 0 ≤ t) (h1 : t < 8) : keyOf Try.prog 3 (.int .i64 t) = some (.int .i64 t) := Maps.keyOf_int_mk Try.underlying3 (WalkArith.wf_i64 (by omega))
theorem lit_ne' {x y : Int} (h : x ≠ y) : (Lit.int .i64 x) ≠ Lit.int .i64 y := by
  intro e
  injection e with _ e
  exact h e
def OpM (w : World) (mb m : Nat) (op : Int → Option Nat) : Prop :=
  ∃ D, w.ownsMap (H := Unit) Try.prog 3 (plainElem Try.prog 3) mb m D ∧ IsMap D ∧ ∀ t : Int, 0 ≤ t → t < 8 → (op t = none → has D (.int .i64 t) = false) ∧ ∀ k : Nat, op t = some k → has D (.int .i64 t) = true ∧ ∀ zd, D.atKey (.int .i64 t) zd = .lit (.int .i64 (k : Int))
theorem OpM.lt {w : World} {mb m : Nat} {op : Int → Option Nat} (h : OpM w mb m op) : mb < w.heap.size := by
  obtain ⟨D, h1, _⟩ := h
  exact h1.lt
theorem OpM.kept {w w' : World} {mb m : Nat} {op : Int → Option Nat} (h : OpM w mb m op) (hk : w'.heap[mb]? = w.heap[mb]?) : OpM w' mb m op := by
  obtain ⟨D, ⟨es, ck, h1, h2⟩, h3⟩ := h
  exact ⟨D, ⟨es, ck, hk.trans h1, h2⟩, h3⟩
theorem OpM.start (w : World) : OpM (w.alloc (.map #[] 0)) w.heap.size 0 (fun _ => none) :=
  ⟨.map [], World.ownsMap_made _ _ _ _, ⟨_, rfl⟩, fun t _ _ => ⟨fun _ => rfl, fun k h => by cases h⟩⟩
set_option maxRecDepth 100000 in
theorem OpM.look {w : World} {mb m : Nat} {op : Int → Option Nat} (h : OpM w mb m op) {t : Int} (h0 : 0 ≤ t) (h1 : t < 8) :
    (op t = none ∧ (Instr.lookup 147 (.map (some mb)) (.int .i64 t) true).run Try.prog w = .ok (.tuple #[.int .i64 0, .bool false]) w) ∨
    ∃ k : Nat, op t = some k ∧ (Instr.lookup 147 (.map (some mb)) (.int .i64 t) true).run Try.prog w = .ok (.tuple #[.int .i64 (k : Int), .bool true]) w := by
  obtain ⟨D, hown, _, h4⟩ := h
  obtain ⟨v, ps, hrun, hv⟩ := hown.look_ok (int_keyed Try.underlying3) Try.underlying147 (zero3 w) (plainElem_int Try.underlying3 (by decide)) (tkey t h0 h1)
  obtain ⟨c, rfl, hc, _⟩ := plainElem_int_inv Try.underlying3 hv
  simp only [Prod.mk.injEq] at hc
  obtain ⟨q1, q2⟩ := h4 t h0 h1
  have hc1 := hc.1
  cases ho : op t with
  | none =>
    left
    refine ⟨rfl, ?_⟩
    have hno := q1 ho
    rw [atKey_of_not_has hno] at hc1
    injection hc1 with hc1
    injection hc1 with _ hc1
    subst hc1
    rw [hrun, hno]
  | some k =>
    right
    refine ⟨k, rfl, ?_⟩
    obtain ⟨a, b⟩ := q2 k ho
    rw [b] at hc1
    injection hc1 with hc1
    injection hc1 with _ hc1
    rw [hrun, a, ← hc1]
set_option maxRecDepth 100000 in
theorem OpM.put {w : World} {mb m : Nat} {op : Int → Option Nat} (h : OpM w mb m op) {t : Int} (h0 : 0 ≤ t) (h1 : t < 8) (hm : m < maxLen) {k : Nat} (hk : k < 4611686018427387904) :
    ∃ w', (Instr.mapUpdate 147 (.map (some mb)) (.int .i64 t) (.int .i64 (k : Int))).run Try.prog w = .ok () w' ∧ OpM w' mb (m + 1) (fun x => if x = t then some k else op x) ∧ w.grownBy w' (some mb) := by
  obtain ⟨D, hown, h3, h4⟩ := h
  obtain ⟨w', hr, ho, hg⟩ := hown.update (int_keyed Try.underlying3) Try.underlying147 hm (tkey t h0 h1) (plainElem_int (a := (k : Int)) Try.underlying3 (WalkArith.wf_i64 (by omega)))
  refine ⟨w', hr, ⟨_, ho, h3.put _ _, fun x hx0 hx1 => ?_⟩, hg⟩
  by_cases e : x = t
  · subst e
    have hik : WideAt.IsKeyLit (Lit.int .i64 x) := trivial
    dsimp only
    rw [if_pos rfl]
    refine ⟨fun q => (by cases q), fun k' q => ?_⟩
    injection q with q
    subst q
    exact ⟨has_put_same h3 hik _, fun zd => atKey_put_same h3 hik _ zd⟩
  · dsimp only
    rw [if_neg e]
    refine ⟨fun q => by rw [has_put_other (lit_ne' e)]; exact (h4 x hx0 hx1).1 q, fun k' q => ?_⟩
    obtain ⟨a, b⟩ := (h4 x hx0 hx1).2 k' q
    exact ⟨by rw [has_put_other (lit_ne' e)]; exact a, fun zd => by rw [atKey_put_other (lit_ne' e)]; exact b zd⟩
set_option maxRecDepth 100000 in
theorem OpM.drop {w : World} {mb m : Nat} {op : Int → Option Nat} (h : OpM w mb m op) {t : Int} (h0 : 0 ≤ t) (h1 : t < 8) (ty : TypeId) :
    ∃ w', (Builtin.delete_ #[147, 3] ty #[.map (some mb), .int .i64 t]).run Try.prog w = .ok (.tuple #[]) w' ∧ OpM w' mb m (fun x => if x = t then none else op x) ∧ w.grownBy w' (some mb) := by
  obtain ⟨D, hown, h3, h4⟩ := h
  obtain ⟨w', hr, ho, hg⟩ := hown.drop (int_keyed Try.underlying3) Try.underlying147 (tkey t h0 h1) ty
  refine ⟨w', hr, ⟨_, ho, h3.del _, fun x hx0 hx1 => ?_⟩, hg.grown⟩
  by_cases e : x = t
  · subst e
    dsimp only
    rw [if_pos rfl]
    exact ⟨fun _ => has_del_same, fun k' q => by cases q⟩
  · dsimp only
    rw [if_neg e]
    refine ⟨fun q => by rw [has_del_other (lit_ne' e)]; exact (h4 x hx0 hx1).1 q, fun k' q => ?_⟩
    obtain ⟨a, b⟩ := (h4 x hx0 hx1).2 k' q
    exact ⟨by rw [has_del_other (lit_ne' e)]; exact a, fun zd => by rw [atKey_del_other (lit_ne' e)]; exact b zd⟩
end Go.Proofs.Ytjifpjfinffamaa
end
section
namespace Go.Proofs.Ytjifpjfinffamaa
open Go.RowKit
structure COwn (c : CS) (p : Nat) : Prop where
  len : c.lk.length = c.bl.length
  own : ∀ t k, c.op t = some k → k < c.bl.length
  le : c.bl.length ≤ p
  rd : ∀ k, (blAt c.bl k).rd.length ≤ p
  wt : ∀ k, (blAt c.bl k).wt.length ≤ p
theorem COwn.start : COwn cs0 0 := by
  refine ⟨rfl, ?_, Nat.le_refl _, ?_, ?_⟩
  · intro t k h
    cases h
  · intro k
    simp [cs0, blAt, bl0]
  · intro k
    simp [cs0, blAt, bl0]
theorem blAt_append (L : List Bl) (b : Bl) (k : Nat) : blAt (L ++ [b]) k = if k = L.length then b else blAt L k := by
  unfold blAt
  by_cases h : k < L.length
  · rw [if_neg (by omega)]
    simp [List.getD, List.getElem?_append_left h]
  · by_cases e : k = L.length
    · subst e
      simp [List.getD]
    · rw [if_neg e]
      simp only [List.getD]
      rw [List.getElem?_eq_none (by simp; omega), List.getElem?_eq_none (by omega)]
theorem evB_lens (b : Bl) (i : Nat) (e : Ev) : (evB b i e).rd.length ≤ b.rd.length + 1 ∧ (evB b i e).wt.length ≤ b.wt.length + 1 := by
  unfold evB clB stB
  repeat' split
  all_goals simp
theorem COwn.step {c : CS} {p : Nat} (h : COwn c p) (e : Ev) : COwn (cutS c p e) (p + 1) := by
  obtain ⟨h1, h2, h3, h4, h5⟩ := h
  unfold cutS
  by_cases hk : e.kind = 1
  · rw [if_pos hk]
    refine ⟨by simp [h1], fun t k => ?_, by simp; omega, fun k => ?_, fun k => ?_⟩
    · dsimp only
      split
      · intro q
        injection q with q
        simp
        omega
      · intro q
        have := h2 t k q
        simp
        omega
    · dsimp only
      rw [blAt_append]
      split
      · simp [begB]
      · have := h4 k; omega
    · dsimp only
      rw [blAt_append]
      split
      · simp [begB]
      · have := h5 k; omega
  · rw [if_neg hk]
    cases ho : c.op e.th with
    | none => exact ⟨h1, h2, by dsimp only; omega, fun k => by have := h4 k; dsimp only; omega, fun k => by have := h5 k; dsimp only; omega⟩
    | some k =>
      have hkl := h2 _ _ ho
      refine ⟨?_, fun t k' => ?_, by simp; omega, fun k' => ?_, fun k' => ?_⟩
      · dsimp only
        split <;> simp [h1]
      · dsimp only
        intro q
        have q2 : c.op t = some k' := by
          split at q
          · dsimp only at q
            split at q
            · cases q
            · exact q
          · exact q
        have := h2 t k' q2
        simpa using this
      · dsimp only
        rw [blAt_set hkl]
        split
        · have := (evB_lens (blAt c.bl k) p e).1
          have := h4 k
          omega
        · have := h4 k'; omega
      · dsimp only
        rw [blAt_set hkl]
        split
        · have := (evB_lens (blAt c.bl k) p e).2
          have := h5 k
          omega
        · have := h5 k'; omega
theorem cutF_own : ∀ (r : List Ev) (p : Nat) (c : CS), COwn c p → COwn (cutF c r p) (p + r.length)
  | [], p, c, h => h
  | e :: r, p, c, h => by
    have := cutF_own r (p + 1) (cutS c p e) (h.step e)
    rw [List.length_cons, show p + (r.length + 1) = p + 1 + r.length by omega]
    exact this
theorem OwnI.setAt {w : World} {base g c : Nat} {xs : List Int} (h : OwnI w base (some ⟨g, 0, none⟩) c xs) (j : Nat) (v : Int) : OwnI (w.setCell ⟨g, j, none⟩ (.int .i64 v)) base (some ⟨g, 0, none⟩) c (xs.set j v) := by
  have := (World.ownsRow.stored h j (.int .i64 v)).1
  unfold OwnI
  rw [List.length_set, show ints (xs.set j v) = (ints xs).set j (.int .i64 v) from by simp [ints, List.map_set]]
  exact this
theorem lks_set (lk : List Nat) (j x : Nat) : lks (lk.set j x) = (lks lk).set j (x : Int) := by simp [lks, List.map_set]
structure CutI (w0 wr : World) (m : Nat) (c : CS) (A : Option Addr) (cb : Nat) (hd : Nat → Value) (Al : Option Addr) (cl : Nat) : Prop where
  blk : BLk wr (w0.heap.size + 1) A cb c.bl hd Al cl c.lk
  op : OpM wr w0.heap.size m c.op
  bel : Below w0.heap.size w0 wr
section
variable {w0 wr w2 : World} {m : Nat} {c : CS} {A : Option Addr} {cb : Nat} {hd : Nat → Value} {Al : Option Addr} {cl : Nat}
theorem CutI.lt (h : CutI w0 wr m c A cb hd Al cl) : w0.heap.size < wr.heap.size := h.op.lt
theorem CutI.keep (h : CutI w0 wr m c A cb hd Al cl) (hb : Below wr.heap.size wr w2) : CutI w0 w2 m c A cb hd Al cl :=
  ⟨h.blk.below (Nat.le_refl _) hb, h.op.kept (hb.block _ h.lt), h.bel.trans (hb.mono (Nat.le_of_lt h.lt))⟩
theorem CutI.mapped (h : CutI w0 wr m c A cb hd Al cl) {m' : Nat} {op' : Int → Option Nat} (ho : OpM w2 w0.heap.size m' op') (hg : wr.grownBy w2 (some w0.heap.size)) : CutI w0 w2 m' ⟨c.bl, c.lk, op'⟩ A cb hd Al cl := by
  refine ⟨⟨h.blk.hb.keep (fun k hk => ?_) (fun i hi k hk => ?_), h.blk.lk.keep' fun k hk => ?_⟩, ho, h.bel.grown hg (Nat.le_of_lt h.lt) (fun k hk => by injection hk with hk; omega)⟩
  · have := h.blk.hb.row.lt k hk
    exact hg.block k this.2 (fun e => by injection e with e; omega)
  · have := (h.blk.hb.own i hi).lt k hk
    exact hg.block k this.2 (fun e => by injection e with e; omega)
  · have := h.blk.lk.lt k hk
    exact hg.block k this.2 (fun e => by injection e with e; omega)
theorem CutI.pushed (h : CutI w0 wr m c A cb hd Al cl) (b : Bl) (hr : b.rd = []) (ht : b.wt = []) {g cap : Nat} (hg : wr.grownBy w2 (Value.slice A c.bl.length cb).ownBlock)
    (ho : w2.ownsRow (w0.heap.size + 1) 43 9 (.slice (some ⟨g, 0, none⟩) (c.bl.length + 1) cap) (c.bl.length + 1) ((List.range (c.bl.length * 9)).map (bF c.bl hd) ++ (List.range 9).map (bcell b (.slice none 0 0) (.slice none 0 0)))) :
    ∃ hd', CutI w0 w2 m ⟨c.bl ++ [b], c.lk, c.op⟩ (some ⟨g, 0, none⟩) cap hd' Al cl := by
  have hge : ∀ k, (Value.slice A c.bl.length cb).ownBlock = some k → w0.heap.size + 1 ≤ k := fun k hk => (h.blk.hb.row.lt k hk).1
  obtain ⟨hd', h1⟩ := h.blk.push b (.slice none 0 0) (.slice none 0 0) (B0 := wr.heap.size) (by rw [hr]; exact OwnN.nil _ _) (by rw [ht]; exact OwnN.nil _ _) (fun k hk => by cases hk) h.blk.hd_lt (fun k hk => by cases hk) (fun k hk => by cases hk) hg ho
  refine ⟨hd', h1, h.op.kept (hg.block _ h.lt fun e => ?_), h.bel.grown hg (Nat.le_of_lt h.lt) (fun k hk => by have := hge k hk; omega)⟩
  have := hge _ e.symm
  omega
theorem CutI.looked (h : CutI w0 wr m c A cb hd Al cl) (x : Nat) {Al' : Option Addr} {cl' : Nat} (hg : wr.grownBy w2 (Value.slice Al (lks c.lk).length cl).ownBlock) (ho : OwnI w2 (w0.heap.size + 1) Al' cl' (lks (c.lk ++ [x]))) :
    CutI w0 w2 m ⟨c.bl, c.lk ++ [x], c.op⟩ A cb hd Al' cl' := by
  have hge : ∀ k, (Value.slice Al (lks c.lk).length cl).ownBlock = some k → w0.heap.size + 1 ≤ k := fun k hk => (h.blk.lk.lt k hk).1
  refine ⟨h.blk.look x hg ho, h.op.kept (hg.block _ h.lt fun e => ?_), h.bel.grown hg (Nat.le_of_lt h.lt) (fun k hk => by have := hge k hk; omega)⟩
  have := hge _ e.symm
  omega
theorem CutI.set {g : Nat} (h : CutI w0 wr m c (some ⟨g, 0, none⟩) cb hd Al cl) (j t : Nat) (v : Value) (b' : Bl) (hj : j < c.bl.length) (ht : t < 7) (hb : ∀ i r s, i < 9 → (if i = t then v else bcell (blAt c.bl j) r s i) = bcell b' r s i) (h1 : b'.rd = (blAt c.bl j).rd) (h2 : b'.wt = (blAt c.bl j).wt) :
    CutI w0 (wr.setCell ⟨g, j * 9 + t, none⟩ v) m ⟨c.bl.set j b', c.lk, c.op⟩ (some ⟨g, 0, none⟩) cb hd Al cl := by
  have hgw := h.blk.hb.row.lt g rfl
  have hs := h.blk.hb.set j t v b' hj ht (fun i hi => hb i _ _ hi) h1 h2
  refine ⟨⟨?_, h.blk.lk.keep' fun k hk => ?_⟩, h.op.kept ?_, h.bel.setCell (p := ⟨g, j * 9 + t, none⟩) (by have := hgw.1; show w0.heap.size ≤ g; omega) v⟩
  · dsimp only
    rw [List.length_set]
    exact hs
  · exact Below.heap_setCell wr ⟨g, j * 9 + t, none⟩ v k fun e => own_far h.blk.lk h.blk.hb.row (by decide) k hk (congrArg some e.symm)
  · exact Below.heap_setCell wr ⟨g, j * 9 + t, none⟩ v _ fun e => by
      have : w0.heap.size = g := e
      omega
theorem CutI.inner {g : Nat} (h : CutI w0 wr m c (some ⟨g, 0, none⟩) cb hd Al cl) (j : Nat) (b' : Bl) (hb : Below (w0.heap.size + 1) wr w2) (hf : Fr wr w2 g c.bl.length hd) (hn : ∃ hd', HB w2 (w0.heap.size + 1) (some ⟨g, 0, none⟩) c.bl.length cb (c.bl.set j b') hd') :
    ∃ hd', CutI w0 w2 m ⟨c.bl.set j b', c.lk, c.op⟩ (some ⟨g, 0, none⟩) cb hd' Al cl := by
  obtain ⟨hd', hn⟩ := hn
  refine ⟨hd', ⟨?_, h.blk.lk.keep' fun k hk => ?_⟩, h.op.kept (hb.block _ (Nat.lt_succ_self _)), h.bel.trans (hb.mono (Nat.le_succ _))⟩
  · dsimp only
    rw [List.length_set]
    exact hn
  · exact hf k (h.blk.lk.lt k hk).2 (fun e => own_far h.blk.lk h.blk.hb.row (by decide) k hk (congrArg some e.symm)) fun i hi e => own_far h.blk.lk (h.blk.hb.own i hi) (by decide) k hk e
theorem CutI.lookset {gl : Nat} (h : CutI w0 wr m c A cb hd (some ⟨gl, 0, none⟩) cl) (j x : Nat) : CutI w0 (wr.setCell ⟨gl, j, none⟩ (.int .i64 (x : Int))) m ⟨c.bl, c.lk.set j x, c.op⟩ A cb hd (some ⟨gl, 0, none⟩) cl := by
  have hgw := h.blk.lk.lt gl rfl
  refine ⟨⟨h.blk.hb.keep (fun k hk => ?_) (fun i hi k hk => ?_), ?_⟩, h.op.kept ?_, h.bel.setCell (p := ⟨gl, j, none⟩) (by have := hgw.1; show w0.heap.size ≤ gl; omega) _⟩
  · exact Below.heap_setCell wr ⟨gl, j, none⟩ _ k fun e => own_far h.blk.hb.row h.blk.lk (by decide) k hk (congrArg some e.symm)
  · exact Below.heap_setCell wr ⟨gl, j, none⟩ _ k fun e => own_far (h.blk.hb.own i hi) h.blk.lk (by decide) k hk (congrArg some e.symm)
  · dsimp only
    rw [lks_set]
    exact h.blk.lk.setAt j _
  · exact Below.heap_setCell wr ⟨gl, j, none⟩ _ _ fun e => by
      have : w0.heap.size = gl := e
      omega
end
section
variable {w0 wr : World} {m : Nat} {bl : List Bl} {lk : List Nat} {op : Int → Option Nat} {cb : Nat} {hd : Nat → Value} {Al : Option Addr} {cl g j : Nat} {b1 : Bl}
theorem CutI.set2 (h : CutI w0 wr m ⟨bl.set j b1, lk, op⟩ (some ⟨g, 0, none⟩) cb hd Al cl) (hj : j < bl.length) (t : Nat) (v : Value) (b2 : Bl) (ht : t < 7) (hb : ∀ i r s, i < 9 → (if i = t then v else bcell b1 r s i) = bcell b2 r s i) (h1 : b2.rd = b1.rd) (h2 : b2.wt = b1.wt) :
    CutI w0 (wr.setCell ⟨g, j * 9 + t, none⟩ v) m ⟨bl.set j b2, lk, op⟩ (some ⟨g, 0, none⟩) cb hd Al cl := by
  have e : blAt (bl.set j b1) j = b1 := by rw [blAt_set hj, if_pos rfl]
  have := h.set j t v b2 (by simpa using hj) ht (fun i r s hi => by dsimp only; rw [e]; exact hb i r s hi) (by dsimp only; rw [e]; exact h1) (by dsimp only; rw [e]; exact h2)
  dsimp only at this
  rwa [List.set_set] at this
end
theorem CutI.drew {w0 wr : World} {m : Nat} {c : CS} {A : Option Addr} {cb : Nat} {hd : Nat → Value} {Al : Option Addr} {cl : Nat} (h : CutI w0 wr m c A cb hd Al cl) : CutI w0 wr.drew m c A cb hd Al cl :=
  h.keep ⟨rfl, rfl, rfl, Nat.le_refl _, fun _ _ => rfl⟩
theorem inner_any {base g n c : Nat} {L : List Bl} {hd : Nat → Value} {j : Nat} {w : World} (e : Ev) (he : e.Wd) (hI : HB w base (some ⟨g, 0, none⟩) n c L hd) (hj : j < n) (hbase : base ≤ w.heap.size) (h1 : (blAt L j).rd.length ≤ 1099511627776) (h2 : (blAt L j).wt.length ≤ 1099511627776) : InEnds base g n c L hd j e w := by
  by_cases k4 : e.kind = 4
  · exact in_moved e he hI hj hbase k4
  · by_cases k5 : e.kind = 5
    · exact in_locked e he hI hj hbase k5
    · by_cases k3 : e.kind = 3
      · exact in_write e he hI hj hbase k3 h2
      · by_cases k2 : e.kind = 2 ∧ e.own = false
        · exact in_read e he hI hj hbase k2.1 k2.2 h1
        · exact in_none e hI hj hbase k4 k5 k2 k3
theorem inner_cut {w0 W : World} {m : Nat} {bl : List Bl} {lk : List Nat} {op : Int → Option Nat} {cb : Nat} {hd : Nat → Value} {Al : Option Addr} {cl g j : Nat} {b1 : Bl} (h : CutI w0 W m ⟨bl.set j b1, lk, op⟩ (some ⟨g, 0, none⟩) cb hd Al cl) (hj : j < bl.length) (e : Ev) (he : e.Wd) (h1 : b1.rd.length ≤ 1099511627776) (h2 : b1.wt.length ≤ 1099511627776) :
    Calls Try.prog 91 #[.pointer (some ⟨g, j * 9, none⟩), evV e] W fun e' w' => e' = .returned (.tuple #[]) ∧ (∃ hd', CutI w0 w' m ⟨bl.set j (stB b1 e), lk, op⟩ (some ⟨g, 0, none⟩) cb hd' Al cl) ∧ W.heap.size ≤ w'.heap.size ∧ Fr W w' g bl.length hd := by
  have e1 : blAt (bl.set j b1) j = b1 := by rw [blAt_set hj, if_pos rfl]
  have hb := h.blk.hb
  dsimp only at hb
  have hin := inner_any (j := j) e he hb (by simpa using hj) (by have := h.lt; omega) (by rw [e1]; exact h1) (by rw [e1]; exact h2)
  refine Calls.mono hin ?_
  rintro e' w' ⟨rfl, hbl, hf, hn⟩
  rw [e1, List.set_set] at hn
  refine ⟨rfl, ?_, hbl.size, ?_⟩
  · obtain ⟨hd', hc⟩ := h.inner j (stB b1 e) hbl hf (by dsimp only; rw [List.set_set]; exact hn)
    dsimp only at hc
    rw [List.set_set] at hc
    exact ⟨hd', hc⟩
  · rw [List.length_set] at hf
    exact hf
def dlB (bl : List Bl) (q : Nat) : List Bl := (bl.take q).map finW ++ bl.drop q
theorem dlB_zero (bl : List Bl) : dlB bl 0 = bl := rfl
theorem dlB_len (bl : List Bl) (q : Nat) : (dlB bl q).length = bl.length := by simp [dlB]; omega
theorem dlB_end (bl : List Bl) : dlB bl bl.length = bl.map finW := by simp [dlB]
theorem dlB_at {bl : List Bl} {q : Nat} (h : q < bl.length) : blAt (dlB bl q) q = blAt bl q := by
  have h1 : ((bl.take q).map finW).length = q := by simp; omega
  simp only [blAt, List.getD, dlB]
  rw [List.getElem?_append_right (by omega), h1, Nat.sub_self, List.getElem?_drop, Nat.add_zero]
theorem dlB_step {bl : List Bl} {q : Nat} (h : q < bl.length) : (dlB bl q).set q (finW (blAt bl q)) = dlB bl (q + 1) := by
  have h1 : ((bl.take q).map finW).length = q := by simp; omega
  have h2 : blAt bl q = bl[q] := by simp [blAt, List.getD, List.getElem?_eq_getElem h]
  unfold dlB
  rw [h2, List.set_append_right _ _ (by omega), h1, Nat.sub_self, List.drop_eq_getElem_cons h, List.set_cons_zero, List.take_succ_eq_append_getElem h, List.map_append, List.append_assoc]
  rfl
theorem BLk.set {w : World} {base g c : Nat} {bl : List Bl} {hd : Nat → Value} {Al : Option Addr} {cl : Nat} {lk : List Nat} (h : BLk w base (some ⟨g, 0, none⟩) c bl hd Al cl lk) (j t : Nat) (v : Value) (b' : Bl) (hj : j < bl.length) (ht : t < 7) (hb : ∀ i r s, i < 9 → (if i = t then v else bcell (blAt bl j) r s i) = bcell b' r s i) (h1 : b'.rd = (blAt bl j).rd) (h2 : b'.wt = (blAt bl j).wt) :
    BLk (w.setCell ⟨g, j * 9 + t, none⟩ v) base (some ⟨g, 0, none⟩) c (bl.set j b') hd Al cl lk := by
  refine ⟨?_, h.lk.keep' fun k hk => ?_⟩
  · rw [List.length_set]
    exact h.hb.set j t v b' hj ht (fun i hi => hb i _ _ hi) h1 h2
  · exact Below.heap_setCell w ⟨g, j * 9 + t, none⟩ v k fun e => own_far h.lk h.hb.row (by decide) k hk (congrArg some e.symm)
end Go.Proofs.Ytjifpjfinffamaa
end
section
namespace Go.Proofs.Ytjifpjfinffamaa
open Go.RowKit
def OverB (b : Bl) : Bool := decide (1 ≤ b.kind) && decide (b.kind ≤ 3)
theorem over15_any (b : Bl) (r t : Value) (w : World) : Calls Try.prog 64 #[blV b r t] w fun e w' => e = .returned (.bool (OverB b)) ∧ Below w.heap.size w w' := by
  obtain ⟨th, k, f, l, nm, wr, er, rd, wt⟩ := b
  have hor : k = 1 ∨ k = 2 ∨ k = 3 ∨ (k == 1) = false ∧ (k == 2) = false ∧ (k == 3) = false ∧ OverB ⟨th, k, f, l, nm, wr, er, rd, wt⟩ = false := by
    by_cases h1 : k = 1
    · exact .inl h1
    · by_cases h2 : k = 2
      · exact .inr (.inl h2)
      · by_cases h3 : k = 3
        · exact .inr (.inr (.inl h3))
        · refine .inr (.inr (.inr ⟨by simpa using h1, by simpa using h2, by simpa using h3, ?_⟩))
          unfold OverB
          by_cases q : 1 ≤ k
          · have : ¬ k ≤ 3 := by omega
            simp [this]
          · simp [q]
  rcases hor with rfl | rfl | rfl | ⟨k1, k2, k3, hf⟩
  case inr.inr.inr =>
    rw [hf]
    clear hf
    go_enter Try.func64, Try.ntmps64
    go_wp2
    go_ret
    refine ⟨rfl, ?_⟩
    go_grown
  all_goals
    go_enter Try.func64, Try.ntmps64
    go_wp2
    go_ret
    refine ⟨rfl, ?_⟩
    go_grown
theorem over_any (b : Bl) (r t : Value) (w : World) : Calls Try.prog 92 #[blV b r t] w fun e w' => e = .returned (.bool (OverB b)) ∧ Below w.heap.size w w' := by
  obtain ⟨th, k, f, l, nm, wr, er, rd, wt⟩ := b
  have hor : (1 ≤ k ∧ k ≤ 3) ∧ OverB ⟨th, k, f, l, nm, wr, er, rd, wt⟩ = true ∨ (1 ≤ k ∧ ¬ k ≤ 3) ∧ OverB ⟨th, k, f, l, nm, wr, er, rd, wt⟩ = false ∨ ¬ 1 ≤ k ∧ OverB ⟨th, k, f, l, nm, wr, er, rd, wt⟩ = false := by
    unfold OverB
    by_cases h1 : 1 ≤ k
    · by_cases h2 : k ≤ 3
      · exact .inl ⟨⟨h1, h2⟩, by simp [h1, h2]⟩
      · exact .inr (.inl ⟨⟨h1, h2⟩, by simp [h2]⟩)
    · exact .inr (.inr ⟨h1, by simp [h1]⟩)
  rcases hor with ⟨⟨h1, h2⟩, hf⟩ | ⟨⟨h1, h2⟩, hf⟩ | ⟨h1, hf⟩
  all_goals
    rw [hf]
    clear hf
    go_enter Try.func92, Try.ntmps92
    go_wp2
    go_ret
    refine ⟨rfl, ?_⟩
    go_grown
def BefB (a : Bl) (x : Int) (b : Bl) (y : Int) : Bool := if a.num ≠ b.num then decide (a.num < b.num) else if a.wr ≠ b.wr then a.wr else decide (x < y)
theorem before_any (a b : Bl) (x y : Int) (r t r' t' : Value) (w : World) : Calls Try.prog 65 #[blV a r t, .int .i64 x, blV b r' t', .int .i64 y] w fun e w' => e = .returned (.bool (BefB a x b y)) ∧ Below w.heap.size w w' := by
  obtain ⟨th, k, f, l, nm, wr, er, rd, wt⟩ := a
  obtain ⟨th', k', f', l', nm', wr', er', rd', wt'⟩ := b
  by_cases h1 : nm = nm'
  · have hf : BefB ⟨th, k, f, l, nm, wr, er, rd, wt⟩ x ⟨th', k', f', l', nm', wr', er', rd', wt'⟩ y = if wr ≠ wr' then wr else decide (x < y) := by
      unfold BefB
      rw [if_neg (by simpa using h1)]
    rw [hf]
    have e1 : (nm != nm') = false := by simpa using h1
    clear h1 hf
    cases wr <;> cases wr' <;> simp only [ne_eq, reduceCtorEq, not_true_eq_false, not_false_eq_true, if_true, if_false]
    all_goals
      go_enter Try.func65, Try.ntmps65
      go_wp2
      go_ret
      refine ⟨rfl, ?_⟩
      go_grown
  · have hf : BefB ⟨th, k, f, l, nm, wr, er, rd, wt⟩ x ⟨th', k', f', l', nm', wr', er', rd', wt'⟩ y = decide (nm < nm') := by
      unfold BefB
      rw [if_pos h1]
    rw [hf]
    have e1 : (nm != nm') = true := by simpa using h1
    clear h1 hf
    go_enter Try.func65, Try.ntmps65
    go_wp2
    go_ret
    refine ⟨rfl, ?_⟩
    go_grown
end Go.Proofs.Ytjifpjfinffamaa
end
section
namespace Go.Proofs.Ytjifpjfinffamaa
open Go.RowKit Go.Sort
theorem BefB_irrefl (a : Bl) (x : Int) : BefB a x a x = false := by simp [BefB]
theorem BefB_trans {a b c : Bl} {x y z : Int} (h1 : BefB a x b y = true) (h2 : BefB b y c z = true) : BefB a x c z = true := by
  unfold BefB at *
  by_cases e1 : a.num = b.num
  · rw [if_neg (by simpa using e1)] at h1
    by_cases e2 : b.num = c.num
    · rw [if_neg (by simpa using e2)] at h2
      rw [if_neg (by simp [e1, e2])]
      cases ha : a.wr <;> cases hb : b.wr <;> cases hc : c.wr <;> simp [ha, hb, hc] at h1 h2 ⊢ <;> omega
    · rw [if_pos e2] at h2
      rw [if_pos (by rw [e1]; exact e2), e1]
      exact h2
  · rw [if_pos e1] at h1
    have h1' := of_decide_eq_true h1
    by_cases e2 : b.num = c.num
    · rw [if_pos (by rw [← e2]; exact e1), ← e2]
      exact h1
    · rw [if_pos e2] at h2
      have h2' := of_decide_eq_true h2
      rw [if_pos (by omega)]
      exact decide_eq_true (by omega)
theorem BefB_total {a b : Bl} {x y : Int} (h1 : BefB a x b y = false) (h2 : BefB b y a x = false) : x = y := by
  unfold BefB at *
  by_cases e1 : a.num = b.num
  · rw [if_neg (by simpa using e1)] at h1
    rw [if_neg (by simp [e1])] at h2
    cases ha : a.wr <;> cases hb : b.wr <;> simp [ha, hb] at h1 h2 <;> omega
  · rw [if_pos e1] at h1
    rw [if_pos (fun e => e1 e.symm)] at h2
    have h1' := of_decide_eq_false h1
    have h2' := of_decide_eq_false h2
    omega
def befL (bl : List Bl) (lk : List Nat) (i k : Nat) : Bool := BefB (blAt bl i) (lk.getD i 0 : Nat) (blAt bl k) (lk.getD k 0 : Nat)
def insB (bl : List Bl) (lk : List Nat) (i : Nat) : List Nat → List Nat
  | [] => [i]
  | k :: r => if befL bl lk i k = true then i :: k :: r else k :: insB bl lk i r
def ordS (bl : List Bl) (lk : List Nat) : Nat → List Nat
  | 0 => []
  | i + 1 => if OverB (blAt bl i) = true then insB bl lk i (ordS bl lk i) else ordS bl lk i
theorem insB_perm (bl : List Bl) (lk : List Nat) (i : Nat) : ∀ out : List Nat, (insB bl lk i out).Perm (i :: out)
  | [] => List.Perm.refl _
  | a :: r => by
    unfold insB
    split
    · exact List.Perm.refl _
    · exact ((insB_perm bl lk i r).cons a).trans (List.Perm.swap i a r)
theorem ordS_perm (bl : List Bl) (lk : List Nat) : ∀ n, (ordS bl lk n).Perm ((List.range n).filter fun i => OverB (blAt bl i))
  | 0 => List.Perm.refl _
  | n + 1 => by
    unfold ordS
    rw [List.range_succ, List.filter_append]
    have ih := ordS_perm bl lk n
    by_cases h : OverB (blAt bl n) = true
    · rw [if_pos h]
      have : [n].filter (fun i => OverB (blAt bl i)) = [n] := by simp [h]
      rw [this]
      exact ((insB_perm bl lk n _).trans (ih.cons n)).trans (List.perm_append_comm (l₁ := [n]))
    · rw [if_neg h]
      have : [n].filter (fun i => OverB (blAt bl i)) = [] := by simp [h]
      rw [this, List.append_nil]
      exact ih
theorem ordS_lt {bl : List Bl} {lk : List Nat} {n i : Nat} (h : i ∈ ordS bl lk n) : i < n := by
  have := (ordS_perm bl lk n).mem_iff.1 h
  exact List.mem_range.1 (List.mem_filter.1 this).1
theorem ordS_over {bl : List Bl} {lk : List Nat} {n i : Nat} (h : i ∈ ordS bl lk n) : OverB (blAt bl i) = true := by
  have := (ordS_perm bl lk n).mem_iff.1 h
  exact (List.mem_filter.1 this).2
def PartL (lk : List Nat) (n : Nat) : Prop := ∀ i k, i < n → k < n → lk.getD i 0 = lk.getD k 0 → i = k
theorem PartL.of {lk : List Nat} (h : lk.Nodup) : PartL lk lk.length := by
  intro i k hi hk he
  rw [List.nodup_iff_pairwise_ne, List.pairwise_iff_getElem] at h
  simp only [List.getD, List.getElem?_eq_getElem hi, List.getElem?_eq_getElem hk, Option.getD_some] at he
  rcases Nat.lt_trichotomy i k with q | q | q
  · exact absurd he (h i k hi hk q)
  · exact q
  · exact absurd he.symm (h k i hk hi q)
theorem befL_total {bl : List Bl} {lk : List Nat} {n i k : Nat} (hP : PartL lk n) (hi : i < n) (hk : k < n) (h1 : befL bl lk i k = false) (h2 : befL bl lk k i = false) : i = k := by
  have := BefB_total h1 h2
  exact hP i k hi hk (by omega)
theorem befL_trans {bl : List Bl} {lk : List Nat} {i k j : Nat} (h1 : befL bl lk i k = true) (h2 : befL bl lk k j = true) : befL bl lk i j = true := BefB_trans h1 h2
theorem befL_irrefl (bl : List Bl) (lk : List Nat) (i : Nat) : befL bl lk i i = false := BefB_irrefl _ _
theorem insB_sorted {bl : List Bl} {lk : List Nat} {n : Nat} (hP : PartL lk n) {i : Nat} (hi : i < n) : ∀ out : List Nat, (∀ x ∈ out, x < n ∧ x ≠ i) → out.Pairwise (fun a b => befL bl lk a b = true) → (insB bl lk i out).Pairwise (fun a b => befL bl lk a b = true)
  | [], _, _ => by simp [insB]
  | a :: r, hx, hs => by
    have hs' := List.pairwise_cons.1 hs
    unfold insB
    by_cases h : befL bl lk i a = true
    · rw [if_pos h]
      refine List.pairwise_cons.2 ⟨fun b hb => ?_, hs⟩
      rcases List.mem_cons.1 hb with rfl | hb
      · exact h
      · exact befL_trans h (hs'.1 b hb)
    · rw [if_neg h]
      refine List.pairwise_cons.2 ⟨fun b hb => ?_, insB_sorted hP hi r (fun x hxr => hx x (List.mem_cons_of_mem _ hxr)) hs'.2⟩
      rcases List.mem_cons.1 ((insB_perm bl lk i r).mem_iff.1 hb) with rfl | hb
      · have ha := hx a List.mem_cons_self
        cases hai : befL bl lk a b with
        | true => rfl
        | false => exact absurd (befL_total hP ha.1 hi hai (by simpa using h)) ha.2
      · exact hs'.1 b hb
theorem ordS_sorted {bl : List Bl} {lk : List Nat} {n : Nat} (hP : PartL lk n) : ∀ m, m ≤ n → (ordS bl lk m).Pairwise (fun a b => befL bl lk a b = true)
  | 0, _ => List.Pairwise.nil
  | m + 1, hm => by
    have ih := ordS_sorted (bl := bl) hP m (by omega)
    unfold ordS
    split
    · exact insB_sorted hP (by omega) _ (fun x hx => by have := ordS_lt hx; omega) ih
    · exact ih
def cmp3 (x y : Int) : Int := if x < y then -1 else if x = y then 0 else 1
def fstB (b : Bl) : Int := if b.wr = true then 0 else 1
def cfB (bl : List Bl) (lk : List Nat) (i k : Nat) : Int :=
  if cmp3 (blAt bl i).num (blAt bl k).num ≠ 0 then cmp3 (blAt bl i).num (blAt bl k).num else if cmp3 (fstB (blAt bl i)) (fstB (blAt bl k)) ≠ 0 then cmp3 (fstB (blAt bl i)) (fstB (blAt bl k)) else cmp3 (lk.getD i 0 : Nat) (lk.getD k 0 : Nat)
theorem cmp3_neg {x y : Int} : cmp3 x y < 0 ↔ x < y := by unfold cmp3; split <;> (try split) <;> simp_all <;> omega
theorem cmp3_zero {x y : Int} : cmp3 x y = 0 ↔ x = y := by unfold cmp3; split <;> (try split) <;> simp_all <;> omega
theorem cfB_bef (bl : List Bl) (lk : List Nat) (i k : Nat) : decide (cfB bl lk i k < 0) = befL bl lk i k := by
  unfold cfB befL BefB
  by_cases h1 : (blAt bl i).num = (blAt bl k).num
  · have n1 : ¬ cmp3 (blAt bl i).num (blAt bl k).num ≠ 0 := fun q => q (cmp3_zero.2 h1)
    have n2 : ¬ (blAt bl i).num ≠ (blAt bl k).num := fun q => q h1
    rw [if_neg n1, if_neg n2]
    by_cases h2 : (blAt bl i).wr = (blAt bl k).wr
    · have h3 : fstB (blAt bl i) = fstB (blAt bl k) := by unfold fstB; rw [h2]
      have n3 : ¬ cmp3 (fstB (blAt bl i)) (fstB (blAt bl k)) ≠ 0 := fun q => q (cmp3_zero.2 h3)
      have n4 : ¬ (blAt bl i).wr ≠ (blAt bl k).wr := fun q => q h2
      rw [if_neg n3, if_neg n4]
      simp only [cmp3_neg]
    · have h3 : fstB (blAt bl i) ≠ fstB (blAt bl k) := by
        unfold fstB
        intro e
        apply h2
        cases ha : (blAt bl i).wr <;> cases hb : (blAt bl k).wr <;> simp [ha, hb] at e ⊢
      have n3 : cmp3 (fstB (blAt bl i)) (fstB (blAt bl k)) ≠ 0 := fun e => h3 (cmp3_zero.1 e)
      rw [if_pos n3, if_pos h2]
      simp only [cmp3_neg]
      unfold fstB
      cases ha : (blAt bl i).wr <;> cases hb : (blAt bl k).wr <;> simp [ha, hb] at h2 ⊢
  · have n1 : cmp3 (blAt bl i).num (blAt bl k).num ≠ 0 := fun e => h1 (cmp3_zero.1 e)
    rw [if_pos n1, if_pos h1]
    simp only [cmp3_neg]
theorem cfF_lt (bl : List Bl) (lk : List Nat) (n : Nat) (x y : Fin n) : ltOf (fun x y : Fin n => cfB bl lk x.val y.val) x y = befL bl lk x.val y.val := cfB_bef bl lk x.val y.val
theorem cfF_swo {bl : List Bl} {lk : List Nat} {n : Nat} (hP : PartL lk n) : SWO (ltOf fun x y : Fin n => cfB bl lk x.val y.val) where
  irrefl x := by rw [cfF_lt]; exact befL_irrefl _ _ _
  trans x y z h1 h2 := by rw [cfF_lt] at *; exact befL_trans h1 h2
  ntrans x y z h1 h2 := by
    rw [cfF_lt] at *
    cases hq : befL bl lk x.val z.val with
    | false => rfl
    | true =>
      exfalso
      cases hyx : befL bl lk y.val x.val with
      | true => rw [befL_trans hyx hq] at h2; cases h2
      | false =>
        have := befL_total hP x.isLt y.isLt h1 hyx
        rw [this] at hq
        rw [hq] at h2
        cases h2
theorem cfF_part {bl : List Bl} {lk : List Nat} {n : Nat} (hP : PartL lk n) (x y : Fin n) (h1 : ltOf (fun x y : Fin n => cfB bl lk x.val y.val) x y = false) (h2 : ltOf (fun x y : Fin n => cfB bl lk x.val y.val) y x = false) : x = y := by
  rw [cfF_lt] at *
  exact Fin.ext (befL_total hP x.isLt y.isLt h1 h2)
theorem sort_ordS {bl : List Bl} {lk : List Nat} {n : Nat} (hP : PartL lk n) (d : List (Fin n)) (hd : d.map Fin.val = (List.range n).filter fun i => OverB (blAt bl i)) :
    (d.mergeSort fun x y => !(ltOf fun x y : Fin n => cfB bl lk x.val y.val) y x).map Fin.val = ordS bl lk n := by
  have hsw := cfF_swo (bl := bl) hP
  have hs : (d.mergeSort fun x y => !(ltOf fun x y : Fin n => cfB bl lk x.val y.val) y x).Pairwise (fun x y => (!(ltOf fun x y : Fin n => cfB bl lk x.val y.val) y x) = true) := by
    refine List.pairwise_mergeSort (fun a b c h1 h2 => ?_) (fun a b => ?_) d
    · simp only [Bool.not_eq_true'] at h1 h2 ⊢
      exact hsw.ntrans _ _ _ h2 h1
    · simp only [Bool.or_eq_true, Bool.not_eq_true']
      rw [cfF_lt, cfF_lt]
      cases h1 : befL bl lk b.val a.val with
      | false => exact .inl rfl
      | true =>
        right
        cases h2 : befL bl lk a.val b.val with
        | false => rfl
        | true =>
          have := befL_trans h1 h2
          rw [befL_irrefl] at this
          cases this
  have hp : ((d.mergeSort fun x y => !(ltOf fun x y : Fin n => cfB bl lk x.val y.val) y x).map Fin.val).Perm (ordS bl lk n) := by
    refine ((List.mergeSort_perm d _).map Fin.val).trans ?_
    rw [hd]
    exact (ordS_perm bl lk n).symm
  refine List.Perm.eq_of_pairwise (le := fun a b => befL bl lk b a = false) (fun a b ha hb h1 h2 => ?_) ?_ ?_ hp
  · have hb' := ordS_lt hb
    have ha' := ordS_lt (hp.mem_iff.1 ha)
    exact befL_total hP ha' hb' h2 h1
  · rw [List.pairwise_map]
    refine hs.imp fun {a b} h => ?_
    rw [cfF_lt] at h
    simpa using h
  · refine (ordS_sorted hP n (Nat.le_refl _)).imp fun {a b} h => ?_
    cases h2 : befL bl lk b a with
    | false => rfl
    | true =>
      have := befL_trans h h2
      rw [befL_irrefl] at this
      cases this
end Go.Proofs.Ytjifpjfinffamaa
end
