/- Walk: events.table. -/
import Derived.Test.YtjifpjfinffamaaV5
import Derived.Handy
import Derived.Maps.RangeWalk
import Derived.Maps.Views
import Derived.Deep.MidRow
namespace Go.Proofs.Ytjifpjfinffamaa
open Go.RowKit Go.Maps

/-- an entry of a map's literal -/
theorem wl_insert {H : Type} {P : Program} (w : World) {ops : Array Oper} {rest : List Oper} {o : Oper} {a : Act} {Q : Exit → Act → World → Prop}
    (hg : o.guard = none) (m x v : Operand) (t : TypeId) (hop : o.op = Op.insert t m x v)
    (k e : TypeId) (K : Keyed P k) (ht : P.underlying t = some (.map k e)) (R : Value → Option (DataW H × List MemPlace)) (b n : Nat) (D : DataW H)
    (hm : a.eval m = .map (some b)) (hown : w.ownsMap P k R b n D) (hn : n < maxLen) (key val : Value) (kl : Lit) (hx : a.eval x = key) (hv : a.eval v = val) (hkey : keyOf P k key = some kl)
    (d : DataW H) (ps : List MemPlace) (hval : R val = some (d, ps))
    (hK : ∀ w', w'.ownsMap P k R b (n + 1) (D.put kl d) → w.grownBy w' (some b) → wpList P ops Q rest (a.put o.dst undef) w') :
    wpList P ops Q (o :: rest) a w := by
  refine wpList_plain hg fun K' hK' => ?_
  obtain ⟨w', hrun, r1, r2⟩ := hown.update K ht hn hkey hval
  unfold Oper.wp
  simp [execOp, hop, hm, hx, hv, hrun, Result.andThen]
  exact hK' _ _ (hK w' r1 r2)
theorem law95 : Keyed Try.prog 95 := int_keyed Try.underlying95


abbrev li (x : Int) : Lit := .int .i64 x
def D1 : DataW Unit := (((((DataW.map []).put (li 1) (.lit (li 1))).put (li 10) (.lit (li 0))).put (li 11) (.lit (li 0))).put (li 9) (.lit (li 3))).put (li 12) (.lit (li 3))
theorem D1_eq : D1 = .map [(li 1, .lit (li 1)), (li 9, .lit (li 3)), (li 10, .lit (li 0)), (li 11, .lit (li 0)), (li 12, .lit (li 3))] := by rfl
theorem D1_has {x : Int} : Maps.has D1 (li x) = true ↔ x = 1 ∨ x = 9 ∨ x = 10 ∨ x = 11 ∨ x = 12 := by
  rw [D1_eq, has_eq]
  simp [Lit.sameKey]
  omega
theorem D1_at (x : Int) (z : DataW Unit) (h : x = 1 ∨ x = 9 ∨ x = 10 ∨ x = 11 ∨ x = 12) : D1.atKey (li x) z = .lit (li (if x = 1 then 1 else if x = 9 then 3 else if x = 12 then 3 else 0)) := by
  rw [D1_eq]
  rcases h with rfl | rfl | rfl | rfl | rfl <;> rfl
def D2 : DataW Unit := (((((((((DataW.map []).put (li 2) (.lit (li 1))).put (li 3) (.lit (li 1))).put (li 4) (.lit (li 1))).put (li 5) (.lit (li 2))).put (li 6) (.lit (li 0))).put (li 7) (.lit (li 0))).put (li 8) (.lit (li 0))).put (li 9) (.lit (li 3)))
theorem D2_eq : D2 = .map [(li 2, .lit (li 1)), (li 3, .lit (li 1)), (li 4, .lit (li 1)), (li 5, .lit (li 2)), (li 6, .lit (li 0)), (li 7, .lit (li 0)), (li 8, .lit (li 0)), (li 9, .lit (li 3))] := by rfl
theorem D2_has {x : Int} : Maps.has D2 (li x) = true ↔ 2 ≤ x ∧ x ≤ 9 := by
  rw [D2_eq, has_eq]
  simp [Lit.sameKey]
  omega
theorem D2_at (x : Int) (z : DataW Unit) (h : x = 2 ∨ x = 3 ∨ x = 4 ∨ x = 5 ∨ x = 6 ∨ x = 7 ∨ x = 8 ∨ x = 9) : D2.atKey (li x) z = .lit (li (if x ≤ 4 then 1 else if x = 5 then 2 else if x = 9 then 3 else 0)) := by
  rw [D2_eq]
  rcases h with rfl | rfl | rfl | rfl | rfl | rfl | rfl | rfl <;> rfl
def rowA (j : Nat) : Int := if j = 1 then 2 else if j = 9 then 4 else if j = 10 then 1 else if j = 11 then 1 else if j = 12 then 4 else 0
def rowB (j : Nat) : Int := if 15 ≤ j ∧ j ≤ 17 then 2 else if j = 18 then 3 else if 19 ≤ j ∧ j ≤ 21 then 1 else if j = 22 then 4 else 0
def tb1 (left : Lit → Bool) (j : Nat) : Value := .int .i64 (if left (li j) = true then 0 else rowA j)
def tb2 (left : Lit → Bool) (j : Nat) : Value := .int .i64 (if left (li ((j : Int) - 13)) = true then rowA j else rowA j + rowB j)
def tabV (j : Nat) : Value := .int .i64 (if j = 32 then 1 else rowA j + rowB j)
theorem tb1_start (j : Nat) : tb1 (Maps.has D1) j = .int .i64 0 := by
  unfold tb1
  by_cases h : Maps.has D1 (li j) = true
  · rw [if_pos h]
  · rw [if_neg h]
    rw [D1_has] at h
    unfold rowA
    rw [if_neg (by omega), if_neg (by omega), if_neg (by omega), if_neg (by omega), if_neg (by omega)]
theorem tb1_step {left : Lit → Bool} {x : Nat} {v : Int} (hv : v = rowA x) (j : Nat) : (if j = x then Value.int .i64 v else tb1 left j) = tb1 (fun z => left z && !z.sameKey (li x)) j := by
  by_cases h : j = x
  · subst h
    rw [if_pos rfl]
    simp [tb1, Lit.sameKey, hv]
  · rw [if_neg h]
    have : ¬ (j : Int) = x := by omega
    simp [tb1, Lit.sameKey, this]
theorem tb2_start (j : Nat) : tb2 (Maps.has D2) j = .int .i64 (rowA j) := by
  unfold tb2
  by_cases h : Maps.has D2 (li ((j : Int) - 13)) = true
  · rw [if_pos h]
  · rw [if_neg h]
    rw [D2_has] at h
    have : rowB j = 0 := by
      unfold rowB
      rw [if_neg (by omega), if_neg (by omega), if_neg (by omega), if_neg (by omega)]
    rw [this, Int.add_zero]
theorem tb2_step {left : Lit → Bool} {x : Nat} {v : Int} (hv : v = rowA (x + 13) + rowB (x + 13)) (j : Nat) : (if j = x + 13 then Value.int .i64 v else tb2 left j) = tb2 (fun z => left z && !z.sameKey (li x)) j := by
  by_cases h : j = x + 13
  · subst h
    rw [if_pos rfl]
    simp [tb2, Lit.sameKey, hv]
  · rw [if_neg h]
    have : ¬ (j : Int) - 13 = x := by omega
    simp [tb2, Lit.sameKey, this]
theorem tb1_end {left : Lit → Bool} (h : ∀ kl, left kl = false) (j : Nat) : tb1 left j = .int .i64 (rowA j) := by simp [tb1, h]
theorem tb2_end {left : Lit → Bool} (h : ∀ kl, left kl = false) (j : Nat) : tb2 left j = .int .i64 (rowA j + rowB j) := by simp [tb2, h]
theorem blk_new (w : World) (cs : Array Value) (t n : Nat) (f : Nat → Value) (hf : (List.range n).map f = cs.toList) : Blk (w.alloc (.cells cs t)) w.heap.size t w.heap.size n f := by
  have hl : cs.size = n := by rw [← Array.length_toList, ← hf]; simp
  have h := World.ownsRow_lit (base := w.heap.size) (e := t) (size := n) w cs 1 (Nat.le_refl _) (by decide) (by omega)
  unfold Blk
  rw [hf]
  exact h
theorem Blk.grown {w w' : World} {base t b n : Nat} {f : Nat → Value} (h : Blk w base t b n f) {row : Option Nat} (hg : w.grownBy w' row) (hne : some b ≠ row) : Blk w' base t b n f := h.kept (hg.block b h.lt.2 hne)
theorem Blk.range {w : World} {base t b n : Nat} {f : Nat → Value} (h : Blk w base t b n f) : w.rangeAt b 0 ((List.range n).map f) := by
  intro j v hj
  have hl : j < n := by have := (List.getElem?_eq_some_iff.1 hj).1; simpa using this
  rw [Nat.zero_add, (h.cell hl).1]
  simpa [hl] using hj
theorem Blk.there {w : World} {base t b n : Nat} {f : Nat → Value} (h : Blk w base t b n f) : w.there b 0 n := by
  intro j hj
  rw [Nat.zero_add]
  exact ⟨by rw [(h.cell hj).1]; rfl, (h.cell hj).2⟩

theorem grown_set (w : World) (p : Addr) (v : Value) : w.grownBy (w.setCell p v) (some p.block) := ⟨rfl, rfl, rfl, by simp [World.setCell], fun k _ hne => Below.heap_setCell w p v k (fun e => hne (by rw [e]))⟩
def tabL : List Value := (List.range 52).map tabV
theorem tabL_one : tabL.toArray.all (·.oneCell') = true := all_oneCell_toArray (fun v hv => by obtain ⟨j, _, rfl⟩ := List.mem_map.1 hv; rfl)
theorem below_setCells {B : Nat} {a w : World} (h : Below B a w) {b : Nat} (hb : B ≤ b) : ∀ (o : Nat) (vs : List Value), Below B a (w.setCells b o vs)
  | _, [] => h
  | o, v :: vs => below_setCells (h.setCell (p := ⟨b, o, none⟩) hb v) hb (o + 1) vs
theorem info185 : (Try.prog.info? 185).map (·.size) = some 52 := by kernel_rfl

set_option linter.unusedSimpArgs false in
set_option maxRecDepth 100000 in
set_option maxHeartbeats 3200000 in
theorem table_any (w : World) : Calls Try.prog 116 #[] w fun e' w' => e' = .returned (.agg tabL.toArray) ∧ Below w.heap.size w w' := by
  have hmm := @run_makeMap Try.prog
  have hB : Below w.heap.size w (((w.alloc (.cells #[.int .i64 0, .int .i64 0, .int .i64 0, .int .i64 0, .int .i64 0, .int .i64 0, .int .i64 0, .int .i64 0, .int .i64 0, .int .i64 0, .int .i64 0, .int .i64 0, .int .i64 0, .int .i64 0, .int .i64 0, .int .i64 0, .int .i64 0, .int .i64 0, .int .i64 0, .int .i64 0, .int .i64 0, .int .i64 0, .int .i64 0, .int .i64 0, .int .i64 0, .int .i64 0, .int .i64 0, .int .i64 0, .int .i64 0, .int .i64 0, .int .i64 0, .int .i64 0, .int .i64 0, .int .i64 0, .int .i64 0, .int .i64 0, .int .i64 0, .int .i64 0, .int .i64 0, .int .i64 0, .int .i64 0, .int .i64 0, .int .i64 0, .int .i64 0, .int .i64 0, .int .i64 0, .int .i64 0, .int .i64 0, .int .i64 0, .int .i64 0, .int .i64 0, .int .i64 0] 185)).alloc (.cells #[.int .i64 0, .int .i64 0, .int .i64 0, .int .i64 0, .int .i64 0, .int .i64 0, .int .i64 0, .int .i64 0, .int .i64 0, .int .i64 0, .int .i64 0, .int .i64 0, .int .i64 0, .int .i64 0, .int .i64 0, .int .i64 0, .int .i64 0, .int .i64 0, .int .i64 0, .int .i64 0, .int .i64 0, .int .i64 0, .int .i64 0, .int .i64 0, .int .i64 0, .int .i64 0, .int .i64 0, .int .i64 0, .int .i64 0, .int .i64 0, .int .i64 0, .int .i64 0, .int .i64 0, .int .i64 0, .int .i64 0, .int .i64 0, .int .i64 0, .int .i64 0, .int .i64 0, .int .i64 0, .int .i64 0, .int .i64 0, .int .i64 0, .int .i64 0, .int .i64 0, .int .i64 0, .int .i64 0, .int .i64 0, .int .i64 0, .int .i64 0, .int .i64 0, .int .i64 0] 185)).alloc (.map #[] 0)) := (((Below.refl _ _).alloc (Nat.le_refl _) _).alloc (by simp) _).alloc (by simp; omega) _
  have hM : (((w.alloc (.cells #[.int .i64 0, .int .i64 0, .int .i64 0, .int .i64 0, .int .i64 0, .int .i64 0, .int .i64 0, .int .i64 0, .int .i64 0, .int .i64 0, .int .i64 0, .int .i64 0, .int .i64 0, .int .i64 0, .int .i64 0, .int .i64 0, .int .i64 0, .int .i64 0, .int .i64 0, .int .i64 0, .int .i64 0, .int .i64 0, .int .i64 0, .int .i64 0, .int .i64 0, .int .i64 0, .int .i64 0, .int .i64 0, .int .i64 0, .int .i64 0, .int .i64 0, .int .i64 0, .int .i64 0, .int .i64 0, .int .i64 0, .int .i64 0, .int .i64 0, .int .i64 0, .int .i64 0, .int .i64 0, .int .i64 0, .int .i64 0, .int .i64 0, .int .i64 0, .int .i64 0, .int .i64 0, .int .i64 0, .int .i64 0, .int .i64 0, .int .i64 0, .int .i64 0, .int .i64 0] 185)).alloc (.cells #[.int .i64 0, .int .i64 0, .int .i64 0, .int .i64 0, .int .i64 0, .int .i64 0, .int .i64 0, .int .i64 0, .int .i64 0, .int .i64 0, .int .i64 0, .int .i64 0, .int .i64 0, .int .i64 0, .int .i64 0, .int .i64 0, .int .i64 0, .int .i64 0, .int .i64 0, .int .i64 0, .int .i64 0, .int .i64 0, .int .i64 0, .int .i64 0, .int .i64 0, .int .i64 0, .int .i64 0, .int .i64 0, .int .i64 0, .int .i64 0, .int .i64 0, .int .i64 0, .int .i64 0, .int .i64 0, .int .i64 0, .int .i64 0, .int .i64 0, .int .i64 0, .int .i64 0, .int .i64 0, .int .i64 0, .int .i64 0, .int .i64 0, .int .i64 0, .int .i64 0, .int .i64 0, .int .i64 0, .int .i64 0, .int .i64 0, .int .i64 0, .int .i64 0, .int .i64 0] 185)).alloc (.map #[] 0)).ownsMap (H := Unit) Try.prog 95 (plainElem Try.prog 3) (w.heap.size + 1 + 1) 0 (.map []) := by
    have := World.ownsMap_made (H := Unit) ((w.alloc (.cells #[.int .i64 0, .int .i64 0, .int .i64 0, .int .i64 0, .int .i64 0, .int .i64 0, .int .i64 0, .int .i64 0, .int .i64 0, .int .i64 0, .int .i64 0, .int .i64 0, .int .i64 0, .int .i64 0, .int .i64 0, .int .i64 0, .int .i64 0, .int .i64 0, .int .i64 0, .int .i64 0, .int .i64 0, .int .i64 0, .int .i64 0, .int .i64 0, .int .i64 0, .int .i64 0, .int .i64 0, .int .i64 0, .int .i64 0, .int .i64 0, .int .i64 0, .int .i64 0, .int .i64 0, .int .i64 0, .int .i64 0, .int .i64 0, .int .i64 0, .int .i64 0, .int .i64 0, .int .i64 0, .int .i64 0, .int .i64 0, .int .i64 0, .int .i64 0, .int .i64 0, .int .i64 0, .int .i64 0, .int .i64 0, .int .i64 0, .int .i64 0, .int .i64 0, .int .i64 0] 185)).alloc (.cells #[.int .i64 0, .int .i64 0, .int .i64 0, .int .i64 0, .int .i64 0, .int .i64 0, .int .i64 0, .int .i64 0, .int .i64 0, .int .i64 0, .int .i64 0, .int .i64 0, .int .i64 0, .int .i64 0, .int .i64 0, .int .i64 0, .int .i64 0, .int .i64 0, .int .i64 0, .int .i64 0, .int .i64 0, .int .i64 0, .int .i64 0, .int .i64 0, .int .i64 0, .int .i64 0, .int .i64 0, .int .i64 0, .int .i64 0, .int .i64 0, .int .i64 0, .int .i64 0, .int .i64 0, .int .i64 0, .int .i64 0, .int .i64 0, .int .i64 0, .int .i64 0, .int .i64 0, .int .i64 0, .int .i64 0, .int .i64 0, .int .i64 0, .int .i64 0, .int .i64 0, .int .i64 0, .int .i64 0, .int .i64 0, .int .i64 0, .int .i64 0, .int .i64 0, .int .i64 0] 185)) Try.prog 95 (plainElem Try.prog 3)
    simpa using this
  have hs : (((w.alloc (.cells #[.int .i64 0, .int .i64 0, .int .i64 0, .int .i64 0, .int .i64 0, .int .i64 0, .int .i64 0, .int .i64 0, .int .i64 0, .int .i64 0, .int .i64 0, .int .i64 0, .int .i64 0, .int .i64 0, .int .i64 0, .int .i64 0, .int .i64 0, .int .i64 0, .int .i64 0, .int .i64 0, .int .i64 0, .int .i64 0, .int .i64 0, .int .i64 0, .int .i64 0, .int .i64 0, .int .i64 0, .int .i64 0, .int .i64 0, .int .i64 0, .int .i64 0, .int .i64 0, .int .i64 0, .int .i64 0, .int .i64 0, .int .i64 0, .int .i64 0, .int .i64 0, .int .i64 0, .int .i64 0, .int .i64 0, .int .i64 0, .int .i64 0, .int .i64 0, .int .i64 0, .int .i64 0, .int .i64 0, .int .i64 0, .int .i64 0, .int .i64 0, .int .i64 0, .int .i64 0] 185)).alloc (.cells #[.int .i64 0, .int .i64 0, .int .i64 0, .int .i64 0, .int .i64 0, .int .i64 0, .int .i64 0, .int .i64 0, .int .i64 0, .int .i64 0, .int .i64 0, .int .i64 0, .int .i64 0, .int .i64 0, .int .i64 0, .int .i64 0, .int .i64 0, .int .i64 0, .int .i64 0, .int .i64 0, .int .i64 0, .int .i64 0, .int .i64 0, .int .i64 0, .int .i64 0, .int .i64 0, .int .i64 0, .int .i64 0, .int .i64 0, .int .i64 0, .int .i64 0, .int .i64 0, .int .i64 0, .int .i64 0, .int .i64 0, .int .i64 0, .int .i64 0, .int .i64 0, .int .i64 0, .int .i64 0, .int .i64 0, .int .i64 0, .int .i64 0, .int .i64 0, .int .i64 0, .int .i64 0, .int .i64 0, .int .i64 0, .int .i64 0, .int .i64 0, .int .i64 0, .int .i64 0] 185)).alloc (.map #[] 0)).heap.size = w.heap.size + 3 := by simp
  have hR : Blk (((w.alloc (.cells #[.int .i64 0, .int .i64 0, .int .i64 0, .int .i64 0, .int .i64 0, .int .i64 0, .int .i64 0, .int .i64 0, .int .i64 0, .int .i64 0, .int .i64 0, .int .i64 0, .int .i64 0, .int .i64 0, .int .i64 0, .int .i64 0, .int .i64 0, .int .i64 0, .int .i64 0, .int .i64 0, .int .i64 0, .int .i64 0, .int .i64 0, .int .i64 0, .int .i64 0, .int .i64 0, .int .i64 0, .int .i64 0, .int .i64 0, .int .i64 0, .int .i64 0, .int .i64 0, .int .i64 0, .int .i64 0, .int .i64 0, .int .i64 0, .int .i64 0, .int .i64 0, .int .i64 0, .int .i64 0, .int .i64 0, .int .i64 0, .int .i64 0, .int .i64 0, .int .i64 0, .int .i64 0, .int .i64 0, .int .i64 0, .int .i64 0, .int .i64 0, .int .i64 0, .int .i64 0] 185)).alloc (.cells #[.int .i64 0, .int .i64 0, .int .i64 0, .int .i64 0, .int .i64 0, .int .i64 0, .int .i64 0, .int .i64 0, .int .i64 0, .int .i64 0, .int .i64 0, .int .i64 0, .int .i64 0, .int .i64 0, .int .i64 0, .int .i64 0, .int .i64 0, .int .i64 0, .int .i64 0, .int .i64 0, .int .i64 0, .int .i64 0, .int .i64 0, .int .i64 0, .int .i64 0, .int .i64 0, .int .i64 0, .int .i64 0, .int .i64 0, .int .i64 0, .int .i64 0, .int .i64 0, .int .i64 0, .int .i64 0, .int .i64 0, .int .i64 0, .int .i64 0, .int .i64 0, .int .i64 0, .int .i64 0, .int .i64 0, .int .i64 0, .int .i64 0, .int .i64 0, .int .i64 0, .int .i64 0, .int .i64 0, .int .i64 0, .int .i64 0, .int .i64 0, .int .i64 0, .int .i64 0] 185)).alloc (.map #[] 0)) w.heap.size 185 w.heap.size 52 (fun _ => .int .i64 0) :=
    (blk_new w #[.int .i64 0, .int .i64 0, .int .i64 0, .int .i64 0, .int .i64 0, .int .i64 0, .int .i64 0, .int .i64 0, .int .i64 0, .int .i64 0, .int .i64 0, .int .i64 0, .int .i64 0, .int .i64 0, .int .i64 0, .int .i64 0, .int .i64 0, .int .i64 0, .int .i64 0, .int .i64 0, .int .i64 0, .int .i64 0, .int .i64 0, .int .i64 0, .int .i64 0, .int .i64 0, .int .i64 0, .int .i64 0, .int .i64 0, .int .i64 0, .int .i64 0, .int .i64 0, .int .i64 0, .int .i64 0, .int .i64 0, .int .i64 0, .int .i64 0, .int .i64 0, .int .i64 0, .int .i64 0, .int .i64 0, .int .i64 0, .int .i64 0, .int .i64 0, .int .i64 0, .int .i64 0, .int .i64 0, .int .i64 0, .int .i64 0, .int .i64 0, .int .i64 0, .int .i64 0] 185 52 (fun _ => .int .i64 0) (by rfl)).kept ((Below.heap_alloc _ _ _ (by simp; omega)).trans (Below.heap_alloc _ _ _ (by simp)))
  have hT : Blk (((w.alloc (.cells #[.int .i64 0, .int .i64 0, .int .i64 0, .int .i64 0, .int .i64 0, .int .i64 0, .int .i64 0, .int .i64 0, .int .i64 0, .int .i64 0, .int .i64 0, .int .i64 0, .int .i64 0, .int .i64 0, .int .i64 0, .int .i64 0, .int .i64 0, .int .i64 0, .int .i64 0, .int .i64 0, .int .i64 0, .int .i64 0, .int .i64 0, .int .i64 0, .int .i64 0, .int .i64 0, .int .i64 0, .int .i64 0, .int .i64 0, .int .i64 0, .int .i64 0, .int .i64 0, .int .i64 0, .int .i64 0, .int .i64 0, .int .i64 0, .int .i64 0, .int .i64 0, .int .i64 0, .int .i64 0, .int .i64 0, .int .i64 0, .int .i64 0, .int .i64 0, .int .i64 0, .int .i64 0, .int .i64 0, .int .i64 0, .int .i64 0, .int .i64 0, .int .i64 0, .int .i64 0] 185)).alloc (.cells #[.int .i64 0, .int .i64 0, .int .i64 0, .int .i64 0, .int .i64 0, .int .i64 0, .int .i64 0, .int .i64 0, .int .i64 0, .int .i64 0, .int .i64 0, .int .i64 0, .int .i64 0, .int .i64 0, .int .i64 0, .int .i64 0, .int .i64 0, .int .i64 0, .int .i64 0, .int .i64 0, .int .i64 0, .int .i64 0, .int .i64 0, .int .i64 0, .int .i64 0, .int .i64 0, .int .i64 0, .int .i64 0, .int .i64 0, .int .i64 0, .int .i64 0, .int .i64 0, .int .i64 0, .int .i64 0, .int .i64 0, .int .i64 0, .int .i64 0, .int .i64 0, .int .i64 0, .int .i64 0, .int .i64 0, .int .i64 0, .int .i64 0, .int .i64 0, .int .i64 0, .int .i64 0, .int .i64 0, .int .i64 0, .int .i64 0, .int .i64 0, .int .i64 0, .int .i64 0] 185)).alloc (.map #[] 0)) w.heap.size 185 (w.heap.size + 1) 52 (fun _ => .int .i64 0) := by
    have h := ((blk_new (w.alloc (.cells #[.int .i64 0, .int .i64 0, .int .i64 0, .int .i64 0, .int .i64 0, .int .i64 0, .int .i64 0, .int .i64 0, .int .i64 0, .int .i64 0, .int .i64 0, .int .i64 0, .int .i64 0, .int .i64 0, .int .i64 0, .int .i64 0, .int .i64 0, .int .i64 0, .int .i64 0, .int .i64 0, .int .i64 0, .int .i64 0, .int .i64 0, .int .i64 0, .int .i64 0, .int .i64 0, .int .i64 0, .int .i64 0, .int .i64 0, .int .i64 0, .int .i64 0, .int .i64 0, .int .i64 0, .int .i64 0, .int .i64 0, .int .i64 0, .int .i64 0, .int .i64 0, .int .i64 0, .int .i64 0, .int .i64 0, .int .i64 0, .int .i64 0, .int .i64 0, .int .i64 0, .int .i64 0, .int .i64 0, .int .i64 0, .int .i64 0, .int .i64 0, .int .i64 0, .int .i64 0] 185)) #[.int .i64 0, .int .i64 0, .int .i64 0, .int .i64 0, .int .i64 0, .int .i64 0, .int .i64 0, .int .i64 0, .int .i64 0, .int .i64 0, .int .i64 0, .int .i64 0, .int .i64 0, .int .i64 0, .int .i64 0, .int .i64 0, .int .i64 0, .int .i64 0, .int .i64 0, .int .i64 0, .int .i64 0, .int .i64 0, .int .i64 0, .int .i64 0, .int .i64 0, .int .i64 0, .int .i64 0, .int .i64 0, .int .i64 0, .int .i64 0, .int .i64 0, .int .i64 0, .int .i64 0, .int .i64 0, .int .i64 0, .int .i64 0, .int .i64 0, .int .i64 0, .int .i64 0, .int .i64 0, .int .i64 0, .int .i64 0, .int .i64 0, .int .i64 0, .int .i64 0, .int .i64 0, .int .i64 0, .int .i64 0, .int .i64 0, .int .i64 0, .int .i64 0, .int .i64 0] 185 52 (fun _ => .int .i64 0) (by rfl)).kept (w' := ((w.alloc (.cells #[.int .i64 0, .int .i64 0, .int .i64 0, .int .i64 0, .int .i64 0, .int .i64 0, .int .i64 0, .int .i64 0, .int .i64 0, .int .i64 0, .int .i64 0, .int .i64 0, .int .i64 0, .int .i64 0, .int .i64 0, .int .i64 0, .int .i64 0, .int .i64 0, .int .i64 0, .int .i64 0, .int .i64 0, .int .i64 0, .int .i64 0, .int .i64 0, .int .i64 0, .int .i64 0, .int .i64 0, .int .i64 0, .int .i64 0, .int .i64 0, .int .i64 0, .int .i64 0, .int .i64 0, .int .i64 0, .int .i64 0, .int .i64 0, .int .i64 0, .int .i64 0, .int .i64 0, .int .i64 0, .int .i64 0, .int .i64 0, .int .i64 0, .int .i64 0, .int .i64 0, .int .i64 0, .int .i64 0, .int .i64 0, .int .i64 0, .int .i64 0, .int .i64 0, .int .i64 0] 185)).alloc (.cells #[.int .i64 0, .int .i64 0, .int .i64 0, .int .i64 0, .int .i64 0, .int .i64 0, .int .i64 0, .int .i64 0, .int .i64 0, .int .i64 0, .int .i64 0, .int .i64 0, .int .i64 0, .int .i64 0, .int .i64 0, .int .i64 0, .int .i64 0, .int .i64 0, .int .i64 0, .int .i64 0, .int .i64 0, .int .i64 0, .int .i64 0, .int .i64 0, .int .i64 0, .int .i64 0, .int .i64 0, .int .i64 0, .int .i64 0, .int .i64 0, .int .i64 0, .int .i64 0, .int .i64 0, .int .i64 0, .int .i64 0, .int .i64 0, .int .i64 0, .int .i64 0, .int .i64 0, .int .i64 0, .int .i64 0, .int .i64 0, .int .i64 0, .int .i64 0, .int .i64 0, .int .i64 0, .int .i64 0, .int .i64 0, .int .i64 0, .int .i64 0, .int .i64 0, .int .i64 0] 185)).alloc (.map #[] 0)) (Below.heap_alloc _ _ _ (by simp))).base' (base' := w.heap.size) (by simp)
    simpa using h
  have HB := Lib.hid hB
  have HM := Lib.hid hM
  have HS := Lib.hid hs
  have HR := Lib.hid hR
  have HT := Lib.hid hT
  clear hB hM hs hR hT
  go_enter Try.func116, Try.ntmps116
  go_wp2
  generalize (((w.alloc (.cells #[.int .i64 0, .int .i64 0, .int .i64 0, .int .i64 0, .int .i64 0, .int .i64 0, .int .i64 0, .int .i64 0, .int .i64 0, .int .i64 0, .int .i64 0, .int .i64 0, .int .i64 0, .int .i64 0, .int .i64 0, .int .i64 0, .int .i64 0, .int .i64 0, .int .i64 0, .int .i64 0, .int .i64 0, .int .i64 0, .int .i64 0, .int .i64 0, .int .i64 0, .int .i64 0, .int .i64 0, .int .i64 0, .int .i64 0, .int .i64 0, .int .i64 0, .int .i64 0, .int .i64 0, .int .i64 0, .int .i64 0, .int .i64 0, .int .i64 0, .int .i64 0, .int .i64 0, .int .i64 0, .int .i64 0, .int .i64 0, .int .i64 0, .int .i64 0, .int .i64 0, .int .i64 0, .int .i64 0, .int .i64 0, .int .i64 0, .int .i64 0, .int .i64 0, .int .i64 0] 185)).alloc (.cells #[.int .i64 0, .int .i64 0, .int .i64 0, .int .i64 0, .int .i64 0, .int .i64 0, .int .i64 0, .int .i64 0, .int .i64 0, .int .i64 0, .int .i64 0, .int .i64 0, .int .i64 0, .int .i64 0, .int .i64 0, .int .i64 0, .int .i64 0, .int .i64 0, .int .i64 0, .int .i64 0, .int .i64 0, .int .i64 0, .int .i64 0, .int .i64 0, .int .i64 0, .int .i64 0, .int .i64 0, .int .i64 0, .int .i64 0, .int .i64 0, .int .i64 0, .int .i64 0, .int .i64 0, .int .i64 0, .int .i64 0, .int .i64 0, .int .i64 0, .int .i64 0, .int .i64 0, .int .i64 0, .int .i64 0, .int .i64 0, .int .i64 0, .int .i64 0, .int .i64 0, .int .i64 0, .int .i64 0, .int .i64 0, .int .i64 0, .int .i64 0, .int .i64 0, .int .i64 0] 185)).alloc (.map #[] 0)) = w0 at *
  obtain ⟨w1, r1, m1, g1⟩ := HM.out.update law95 Try.underlying211 (by decide) (keyOf_int_mk (a := 1) Try.underlying95 (by decide)) (plainElem_int (a := 1) Try.underlying3 (by decide))
  obtain ⟨w2, r2, m2, g2⟩ := m1.update law95 Try.underlying211 (by decide) (keyOf_int_mk (a := 10) Try.underlying95 (by decide)) (plainElem_int (a := 0) Try.underlying3 (by decide))
  obtain ⟨w3, r3, m3, g3⟩ := m2.update law95 Try.underlying211 (by decide) (keyOf_int_mk (a := 11) Try.underlying95 (by decide)) (plainElem_int (a := 0) Try.underlying3 (by decide))
  obtain ⟨w4, r4, m4, g4⟩ := m3.update law95 Try.underlying211 (by decide) (keyOf_int_mk (a := 9) Try.underlying95 (by decide)) (plainElem_int (a := 3) Try.underlying3 (by decide))
  obtain ⟨w5, r5, m5, g5⟩ := m4.update law95 Try.underlying211 (by decide) (keyOf_int_mk (a := 12) Try.underlying95 (by decide)) (plainElem_int (a := 3) Try.underlying3 (by decide))
  obtain ⟨w6, r6, rg6, g6, s6⟩ := m5.range law95 Try.underlying211
  have RG := Lib.hid (show w6.ranges Try.prog 95 (plainElem Try.prog 3) (w.heap.size + 1 + 1) w5.heap.size 5 D1 (Maps.has D1) (Maps.size D1) from rg6)
  have G5 := Lib.hid (grown_trans (grown_trans (grown_trans (grown_trans g1 g2) g3) g4) g5)
  have hmb : w.heap.size + 1 + 1 < w5.heap.size := by have := G5.out.size; have := HS.out; omega
  have hBM := HB.out.grown G5.out (by have := HS.out; omega) (fun k hk => by injection hk with hk; omega)
  have HB6 := Lib.hid (hBM.grown g6 hBM.size (fun k hk => by cases hk))
  have HT6 := Lib.hid (((HT.out.grown G5.out (by simp)).grown g6 (by simp)).congr fun j _ => (tb1_start j).symm)
  have HR6 := Lib.hid ((HR.out.grown G5.out (by simp; omega)).grown g6 (by simp))
  clear rg6 m1 m2 m3 m4 m5 g1 g2 g3 g4 g5 g6 hBM
  rw [r1]
  go_simp
  go_wp2
  go_loopw [2] (fun _ wr => ∃ left cnt, Hid (wr.ranges Try.prog 95 (plainElem Try.prog 3) (w.heap.size + 1 + 1) w5.heap.size 5 D1 left cnt) ∧ Hid (Blk wr w.heap.size 185 (w.heap.size + 1) 52 (tb1 left)) ∧ Hid (Blk wr w.heap.size 185 w.heap.size 52 (fun _ => .int .i64 0)) ∧ Hid (Below w.heap.size w wr) ∧ Hid (∀ z, left z = true → Maps.has D1 z = true)) (fun _ wr => wr.rangeLeft (w.heap.size + 1 + 1) w5.heap.size)
  case atStart => exact ⟨_, _, RG, HT6, HR6, HB6, Lib.hid fun _ h => h⟩
  case round =>
    obtain ⟨left, cnt, HRG, HT1, HR1, HB1, HL⟩ := hrel
    rcases HRG.out.next law95 0 with ⟨h0, hl, hrun⟩ | ⟨key, v, kl, y, w', cnt', hkey, hlk, hv, hat, hrun, hrg, hlt, hgr, hsz, hen⟩
    · have HTA := Lib.hid (HT1.out.congr fun j _ => tb1_end hl j)
      have hB2 : Below w.heap.size w (wr.alloc (.map #[] 0)) := HB1.out.alloc HB1.out.size _
      have hM2 : (wr.alloc (.map #[] 0)).ownsMap (H := Unit) Try.prog 95 (plainElem Try.prog 3) wr.heap.size 0 (.map []) := World.ownsMap_made (H := Unit) wr Try.prog 95 (plainElem Try.prog 3)
      have hTs := HTA.out.lt.2
      have hRs := HR1.out.lt.2
      have HT2 := Lib.hid (HTA.out.kept (w' := wr.alloc (.map #[] 0)) (Below.heap_alloc _ _ _ hTs))
      have HR2 := Lib.hid (HR1.out.kept (w' := wr.alloc (.map #[] 0)) (Below.heap_alloc _ _ _ hRs))
      have HB2 := Lib.hid hB2
      have HM2 := Lib.hid hM2
      clear hB2 hM2 HTA HT1 HR1 HB1 HRG HL hl
      go_wp2
      generalize (wr.alloc (.map #[] 0)) = v0 at *
      obtain ⟨v1, q1, m1, g1⟩ := HM2.out.update law95 Try.underlying211 (by decide) (keyOf_int_mk (a := 2) Try.underlying95 (by decide)) (plainElem_int (a := 1) Try.underlying3 (by decide))
      obtain ⟨v2, q2, m2, g2⟩ := m1.update law95 Try.underlying211 (by decide) (keyOf_int_mk (a := 3) Try.underlying95 (by decide)) (plainElem_int (a := 1) Try.underlying3 (by decide))
      obtain ⟨v3, q3, m3, g3⟩ := m2.update law95 Try.underlying211 (by decide) (keyOf_int_mk (a := 4) Try.underlying95 (by decide)) (plainElem_int (a := 1) Try.underlying3 (by decide))
      obtain ⟨v4, q4, m4, g4⟩ := m3.update law95 Try.underlying211 (by decide) (keyOf_int_mk (a := 5) Try.underlying95 (by decide)) (plainElem_int (a := 2) Try.underlying3 (by decide))
      obtain ⟨v5, q5, m5, g5⟩ := m4.update law95 Try.underlying211 (by decide) (keyOf_int_mk (a := 6) Try.underlying95 (by decide)) (plainElem_int (a := 0) Try.underlying3 (by decide))
      obtain ⟨v6, q6, m6, g6⟩ := m5.update law95 Try.underlying211 (by decide) (keyOf_int_mk (a := 7) Try.underlying95 (by decide)) (plainElem_int (a := 0) Try.underlying3 (by decide))
      obtain ⟨v7, q7, m7, g7⟩ := m6.update law95 Try.underlying211 (by decide) (keyOf_int_mk (a := 8) Try.underlying95 (by decide)) (plainElem_int (a := 0) Try.underlying3 (by decide))
      obtain ⟨v8, q8, m8, g8⟩ := m7.update law95 Try.underlying211 (by decide) (keyOf_int_mk (a := 9) Try.underlying95 (by decide)) (plainElem_int (a := 3) Try.underlying3 (by decide))
      obtain ⟨v9, q9, rg9, g9, s9⟩ := m8.range law95 Try.underlying211
      have RG2 := Lib.hid (show v9.ranges Try.prog 95 (plainElem Try.prog 3) wr.heap.size v8.heap.size 8 D2 (Maps.has D2) (Maps.size D2) from rg9)
      have G8 := Lib.hid (grown_trans (grown_trans (grown_trans (grown_trans (grown_trans (grown_trans (grown_trans g1 g2) g3) g4) g5) g6) g7) g8)
      have hsz8 : w.heap.size ≤ v8.heap.size := Nat.le_trans HB2.out.size G8.out.size
      have hwr : w.heap.size + 1 < wr.heap.size := hTs
      have hv0 : w.heap.size + 1 < v8.heap.size := Nat.lt_of_lt_of_le HT2.out.lt.2 G8.out.size
      have hB8 := HB2.out.grown G8.out HB2.out.size (fun k hk => by injection hk with hk; omega)
      have HB9 := Lib.hid (hB8.grown g9 hB8.size (fun k hk => by cases hk))
      have HT9 := Lib.hid (((HT2.out.grown G8.out (by simp; omega)).grown g9 (by simp)).congr fun j _ => (tb2_start j).symm)
      have HR9 := Lib.hid ((HR2.out.grown G8.out (by simp; omega)).grown g9 (by simp))
      clear rg9 m1 m2 m3 m4 m5 m6 m7 m8 g1 g2 g3 g4 g5 g6 g7 g8 g9 hB8 G8 HB2 HT2 HR2 HM2 G5 HB6 HT6 HR6 HB HM HR HT RG r1 r2 r3 r4 r5 r6
      rw [q1]
      go_simp
      go_wp2
      obtain ⟨wo, rfl⟩ : ∃ x, x = wr := ⟨_, rfl⟩
      go_loopw [4] (fun _ wr => ∃ left cnt, Hid (wr.ranges Try.prog 95 (plainElem Try.prog 3) wo.heap.size v8.heap.size 8 D2 left cnt) ∧ Hid (Blk wr w.heap.size 185 (w.heap.size + 1) 52 (tb2 left)) ∧ Hid (Blk wr w.heap.size 185 w.heap.size 52 (fun _ => .int .i64 0)) ∧ Hid (Below w.heap.size w wr) ∧ Hid (∀ z, left z = true → Maps.has D2 z = true)) (fun _ wr => wr.rangeLeft wo.heap.size v8.heap.size)
      case atStart => exact ⟨_, _, RG2, HT9, HR9, HB9, Lib.hid fun _ h => h⟩
      case round =>
        obtain ⟨left, cnt, HRG, HT1, HR1, HB1, HL⟩ := hrel
        rcases HRG.out.next law95 0 with ⟨h0, hl, hrun⟩ | ⟨key, v, kl, y, w', cnt', hkey, hlk, hv, hat, hrun, hrg, hlt, hgr, hsz, hen⟩
        · have HTA := Lib.hid (HT1.out.congr fun j _ => tb2_end hl j)
          have hq1 := (HTA.out.cell (j := 32) (by omega)).1
          have hq2 := (HTA.out.cell (j := 32) (by omega)).2
          generalize Value.int .i64 (rowA 32 + rowB 32) = old at hq1
          have hTF := (HTA.out.set 32 (.int .i64 1)).congr (g := tabV) fun j _ => by
            unfold tabV
            by_cases h : j = 32
            · rw [if_pos h, if_pos h]
            · rw [if_neg h, if_neg h]
          have hRF := HR1.out.kept (Below.heap_setCell wr ⟨w.heap.size + 1, 32, none⟩ (.int .i64 1) w.heap.size (by simp))
          have hlv := run_loadVar_mid (P := Try.prog) _ _ _ 185 tabL _ (World.rangeAt_setCells_same _ w.heap.size 0 tabL hRF.there) Try.underlying185 rfl info185
          have HLV := Lib.hid hlv
          have HBF := Lib.hid (below_setCells (HB1.out.setCell (p := ⟨w.heap.size + 1, 32, none⟩) (by simp) (.int .i64 1)) (Nat.le_refl _) 0 tabL)
          have HRN := Lib.hid (show World.rangeAt _ _ 0 tabL from hTF.range)
          have HTH := Lib.hid (show World.there _ w.heap.size 0 tabL.toArray.size from hRF.there)
          have HI5 := Lib.hid (show (Try.prog.info? 185).map (·.size) = some tabL.length from info185)
          have HI6 := Lib.hid (show (Try.prog.info? 185).map (·.size) = some tabL.toArray.size from info185)
          have HON := Lib.hid tabL_one
          clear hlv hTF hRF HTA HT1 HR1 HB1 HRG HL hl
          obtain ⟨tl, htl⟩ : ∃ tl, tl = tabL := ⟨_, rfl⟩
          rw [← htl] at HLV HBF HRN HTH HI5 HI6 HON
          have HTL := Lib.hid htl
          clear htl
          go_wp2_with (first
            | (refine wpList_load_mid (by rfl) 185 (.tmp 1) (by rfl) (w.heap.size + 1) 0 (by rfl) tl _ HRN.out Try.underlying185 rfl HI5.out ?_)
            | (refine wpList_store_mid (by rfl) 185 (.tmp 0) (.tmp 34) (by rfl) w.heap.size 0 tl.toArray (by rfl) (by rfl) HTH.out HI6.out HON.out ?_))
          go_frame
          refine bodyPost_ret (v := .agg tl.toArray) (by simp [results, Try.results116, asAddr, HLV.out]) rfl ?_
          exact ⟨by rw [HTL.out], HBF.out⟩
        · obtain ⟨x, rfl, rfl, hwx⟩ := keyOf_int_inv Try.underlying95 hkey
          obtain ⟨c, rfl, rfl, hwc⟩ := plainElem_int_inv Try.underlying3 hv
          have hx0 := D2_has.1 (HL.out _ hlk)
          have hx : x = 2 ∨ x = 3 ∨ x = 4 ∨ x = 5 ∨ x = 6 ∨ x = 7 ∨ x = 8 ∨ x = 9 := by omega
          have hc := (D2_at x (.nil) hx).symm.trans (hat .nil)
          simp only [DataW.lit.injEq, Lit.int.injEq, true_and] at hc
          have HRG2 := Lib.hid hrg
          have HLK := Lib.hid (HRG.out.left_eq)
          have HLT := Lib.hid hlt
          have HT2 := Lib.hid (HT1.out.grown hgr (by simp; omega))
          have HR2 := Lib.hid (HR1.out.grown hgr (by simp; omega))
          have HB2 := Lib.hid (HB1.out.grown hgr HB1.out.size (fun k hk => by injection hk with hk; omega))
          have HL2 := Lib.hid (fun z (h : (left z && !z.sameKey (li x)) = true) => HL.out z (by simp at h; exact h.1))
          clear hrg hlt hgr hsz hat hv hkey hlk hwx hwc HRG HT1 HR1 HB1 HL hx0
          rcases hx with rfl | rfl | rfl | rfl | rfl | rfl | rfl | rfl
          · simp at hc
            subst hc
            have hq1 := (HT2.out.cell (j := 15) (by omega)).1
            have hq2 := (HT2.out.cell (j := 15) (by omega)).2
            generalize tb2 left 15 = old at hq1
            have HF := Lib.hid ((HT2.out.set 15 (.int .i64 2)).congr fun j _ => tb2_step (x := 2) (by rfl) j)
            have HR3 := Lib.hid (HR2.out.kept (Below.heap_setCell w' ⟨w.heap.size + 1, 15, none⟩ (.int .i64 2) w.heap.size (by simp)))
            have HB3 := Lib.hid (HB2.out.setCell (p := ⟨w.heap.size + 1, 15, none⟩) (by simp) (.int .i64 2))
            have HRG3 := Lib.hid (HRG2.out.kept (grown_set w' ⟨w.heap.size + 1, 15, none⟩ (.int .i64 2)) (by simp; omega) (by simp; omega))
            clear HT2 HR2 HB2 HRG2
            go_wp2
            go_roundw
            case rel => exact ⟨_, _, HRG3, HF, HR3, HB3, HL2⟩
            case measure => rw [HRG3.out.left_eq, HLK.out]; exact HLT.out
          · simp at hc
            subst hc
            have hq1 := (HT2.out.cell (j := 16) (by omega)).1
            have hq2 := (HT2.out.cell (j := 16) (by omega)).2
            generalize tb2 left 16 = old at hq1
            have HF := Lib.hid ((HT2.out.set 16 (.int .i64 2)).congr fun j _ => tb2_step (x := 3) (by rfl) j)
            have HR3 := Lib.hid (HR2.out.kept (Below.heap_setCell w' ⟨w.heap.size + 1, 16, none⟩ (.int .i64 2) w.heap.size (by simp)))
            have HB3 := Lib.hid (HB2.out.setCell (p := ⟨w.heap.size + 1, 16, none⟩) (by simp) (.int .i64 2))
            have HRG3 := Lib.hid (HRG2.out.kept (grown_set w' ⟨w.heap.size + 1, 16, none⟩ (.int .i64 2)) (by simp; omega) (by simp; omega))
            clear HT2 HR2 HB2 HRG2
            go_wp2
            go_roundw
            case rel => exact ⟨_, _, HRG3, HF, HR3, HB3, HL2⟩
            case measure => rw [HRG3.out.left_eq, HLK.out]; exact HLT.out
          · simp at hc
            subst hc
            have hq1 := (HT2.out.cell (j := 17) (by omega)).1
            have hq2 := (HT2.out.cell (j := 17) (by omega)).2
            generalize tb2 left 17 = old at hq1
            have HF := Lib.hid ((HT2.out.set 17 (.int .i64 2)).congr fun j _ => tb2_step (x := 4) (by rfl) j)
            have HR3 := Lib.hid (HR2.out.kept (Below.heap_setCell w' ⟨w.heap.size + 1, 17, none⟩ (.int .i64 2) w.heap.size (by simp)))
            have HB3 := Lib.hid (HB2.out.setCell (p := ⟨w.heap.size + 1, 17, none⟩) (by simp) (.int .i64 2))
            have HRG3 := Lib.hid (HRG2.out.kept (grown_set w' ⟨w.heap.size + 1, 17, none⟩ (.int .i64 2)) (by simp; omega) (by simp; omega))
            clear HT2 HR2 HB2 HRG2
            go_wp2
            go_roundw
            case rel => exact ⟨_, _, HRG3, HF, HR3, HB3, HL2⟩
            case measure => rw [HRG3.out.left_eq, HLK.out]; exact HLT.out
          · simp at hc
            subst hc
            have hq1 := (HT2.out.cell (j := 18) (by omega)).1
            have hq2 := (HT2.out.cell (j := 18) (by omega)).2
            generalize tb2 left 18 = old at hq1
            have HF := Lib.hid ((HT2.out.set 18 (.int .i64 3)).congr fun j _ => tb2_step (x := 5) (by rfl) j)
            have HR3 := Lib.hid (HR2.out.kept (Below.heap_setCell w' ⟨w.heap.size + 1, 18, none⟩ (.int .i64 3) w.heap.size (by simp)))
            have HB3 := Lib.hid (HB2.out.setCell (p := ⟨w.heap.size + 1, 18, none⟩) (by simp) (.int .i64 3))
            have HRG3 := Lib.hid (HRG2.out.kept (grown_set w' ⟨w.heap.size + 1, 18, none⟩ (.int .i64 3)) (by simp; omega) (by simp; omega))
            clear HT2 HR2 HB2 HRG2
            go_wp2
            go_roundw
            case rel => exact ⟨_, _, HRG3, HF, HR3, HB3, HL2⟩
            case measure => rw [HRG3.out.left_eq, HLK.out]; exact HLT.out
          · simp at hc
            subst hc
            have hq1 := (HT2.out.cell (j := 19) (by omega)).1
            have hq2 := (HT2.out.cell (j := 19) (by omega)).2
            generalize tb2 left 19 = old at hq1
            have HF := Lib.hid ((HT2.out.set 19 (.int .i64 1)).congr fun j _ => tb2_step (x := 6) (by rfl) j)
            have HR3 := Lib.hid (HR2.out.kept (Below.heap_setCell w' ⟨w.heap.size + 1, 19, none⟩ (.int .i64 1) w.heap.size (by simp)))
            have HB3 := Lib.hid (HB2.out.setCell (p := ⟨w.heap.size + 1, 19, none⟩) (by simp) (.int .i64 1))
            have HRG3 := Lib.hid (HRG2.out.kept (grown_set w' ⟨w.heap.size + 1, 19, none⟩ (.int .i64 1)) (by simp; omega) (by simp; omega))
            clear HT2 HR2 HB2 HRG2
            go_wp2
            go_roundw
            case rel => exact ⟨_, _, HRG3, HF, HR3, HB3, HL2⟩
            case measure => rw [HRG3.out.left_eq, HLK.out]; exact HLT.out
          · simp at hc
            subst hc
            have hq1 := (HT2.out.cell (j := 20) (by omega)).1
            have hq2 := (HT2.out.cell (j := 20) (by omega)).2
            generalize tb2 left 20 = old at hq1
            have HF := Lib.hid ((HT2.out.set 20 (.int .i64 1)).congr fun j _ => tb2_step (x := 7) (by rfl) j)
            have HR3 := Lib.hid (HR2.out.kept (Below.heap_setCell w' ⟨w.heap.size + 1, 20, none⟩ (.int .i64 1) w.heap.size (by simp)))
            have HB3 := Lib.hid (HB2.out.setCell (p := ⟨w.heap.size + 1, 20, none⟩) (by simp) (.int .i64 1))
            have HRG3 := Lib.hid (HRG2.out.kept (grown_set w' ⟨w.heap.size + 1, 20, none⟩ (.int .i64 1)) (by simp; omega) (by simp; omega))
            clear HT2 HR2 HB2 HRG2
            go_wp2
            go_roundw
            case rel => exact ⟨_, _, HRG3, HF, HR3, HB3, HL2⟩
            case measure => rw [HRG3.out.left_eq, HLK.out]; exact HLT.out
          · simp at hc
            subst hc
            have hq1 := (HT2.out.cell (j := 21) (by omega)).1
            have hq2 := (HT2.out.cell (j := 21) (by omega)).2
            generalize tb2 left 21 = old at hq1
            have HF := Lib.hid ((HT2.out.set 21 (.int .i64 1)).congr fun j _ => tb2_step (x := 8) (by rfl) j)
            have HR3 := Lib.hid (HR2.out.kept (Below.heap_setCell w' ⟨w.heap.size + 1, 21, none⟩ (.int .i64 1) w.heap.size (by simp)))
            have HB3 := Lib.hid (HB2.out.setCell (p := ⟨w.heap.size + 1, 21, none⟩) (by simp) (.int .i64 1))
            have HRG3 := Lib.hid (HRG2.out.kept (grown_set w' ⟨w.heap.size + 1, 21, none⟩ (.int .i64 1)) (by simp; omega) (by simp; omega))
            clear HT2 HR2 HB2 HRG2
            go_wp2
            go_roundw
            case rel => exact ⟨_, _, HRG3, HF, HR3, HB3, HL2⟩
            case measure => rw [HRG3.out.left_eq, HLK.out]; exact HLT.out
          · simp at hc
            subst hc
            have hq1 := (HT2.out.cell (j := 22) (by omega)).1
            have hq2 := (HT2.out.cell (j := 22) (by omega)).2
            generalize tb2 left 22 = old at hq1
            have HF := Lib.hid ((HT2.out.set 22 (.int .i64 4)).congr fun j _ => tb2_step (x := 9) (by rfl) j)
            have HR3 := Lib.hid (HR2.out.kept (Below.heap_setCell w' ⟨w.heap.size + 1, 22, none⟩ (.int .i64 4) w.heap.size (by simp)))
            have HB3 := Lib.hid (HB2.out.setCell (p := ⟨w.heap.size + 1, 22, none⟩) (by simp) (.int .i64 4))
            have HRG3 := Lib.hid (HRG2.out.kept (grown_set w' ⟨w.heap.size + 1, 22, none⟩ (.int .i64 4)) (by simp; omega) (by simp; omega))
            clear HT2 HR2 HB2 HRG2
            go_wp2
            go_roundw
            case rel => exact ⟨_, _, HRG3, HF, HR3, HB3, HL2⟩
            case measure => rw [HRG3.out.left_eq, HLK.out]; exact HLT.out
    · obtain ⟨x, rfl, rfl, hwx⟩ := keyOf_int_inv Try.underlying95 hkey
      obtain ⟨c, rfl, rfl, hwc⟩ := plainElem_int_inv Try.underlying3 hv
      have hx := D1_has.1 (HL.out _ hlk)
      have hc := (D1_at x (.nil) hx).symm.trans (hat .nil)
      simp only [DataW.lit.injEq, Lit.int.injEq, true_and] at hc
      have HRG2 := Lib.hid hrg
      have HLK := Lib.hid (HRG.out.left_eq)
      have HLK2 := Lib.hid (hrg.left_eq)
      have HLT := Lib.hid hlt
      have HT2 := Lib.hid (HT1.out.grown hgr (by simp; omega))
      have HR2 := Lib.hid (HR1.out.grown hgr (by simp; omega))
      have HB2 := Lib.hid (HB1.out.grown hgr HB1.out.size (fun k hk => by injection hk with hk; omega))
      have HL2 := Lib.hid (fun z (h : (left z && !z.sameKey (li x)) = true) => HL.out z (by simp at h; exact h.1))
      clear hrg hlt hgr hsz hat hv hkey hlk hwx hwc HRG HT1 HR1 HB1 HL
      rcases hx with rfl | rfl | rfl | rfl | rfl
      · simp at hc
        subst hc
        have hq1 := (HT2.out.cell (j := 1) (by omega)).1
        have hq2 := (HT2.out.cell (j := 1) (by omega)).2
        generalize tb1 left 1 = old at hq1
        have HF := Lib.hid ((HT2.out.set 1 (.int .i64 2)).congr fun j _ => tb1_step (x := 1) (by rfl) j)
        have HR3 := Lib.hid (HR2.out.kept (Below.heap_setCell w' ⟨w.heap.size + 1, 1, none⟩ (.int .i64 2) w.heap.size (by simp)))
        have HB3 := Lib.hid (HB2.out.setCell (p := ⟨w.heap.size + 1, 1, none⟩) (by simp) (.int .i64 2))
        have HRG3 := Lib.hid (HRG2.out.kept (grown_set w' ⟨w.heap.size + 1, 1, none⟩ (.int .i64 2)) (by simp) (by simp; omega))
        clear HT2 HR2 HB2 HRG2
        go_wp2
        go_roundw
        case rel => exact ⟨_, _, HRG3, HF, HR3, HB3, HL2⟩
        case measure => rw [HRG3.out.left_eq, HLK.out]; exact HLT.out
      · simp at hc
        subst hc
        have hq1 := (HT2.out.cell (j := 9) (by omega)).1
        have hq2 := (HT2.out.cell (j := 9) (by omega)).2
        generalize tb1 left 9 = old at hq1
        have HF := Lib.hid ((HT2.out.set 9 (.int .i64 4)).congr fun j _ => tb1_step (x := 9) (by rfl) j)
        have HR3 := Lib.hid (HR2.out.kept (Below.heap_setCell w' ⟨w.heap.size + 1, 9, none⟩ (.int .i64 4) w.heap.size (by simp)))
        have HB3 := Lib.hid (HB2.out.setCell (p := ⟨w.heap.size + 1, 9, none⟩) (by simp) (.int .i64 4))
        have HRG3 := Lib.hid (HRG2.out.kept (grown_set w' ⟨w.heap.size + 1, 9, none⟩ (.int .i64 4)) (by simp) (by simp; omega))
        clear HT2 HR2 HB2 HRG2
        go_wp2
        go_roundw
        case rel => exact ⟨_, _, HRG3, HF, HR3, HB3, HL2⟩
        case measure => rw [HRG3.out.left_eq, HLK.out]; exact HLT.out
      · simp at hc
        subst hc
        have hq1 := (HT2.out.cell (j := 10) (by omega)).1
        have hq2 := (HT2.out.cell (j := 10) (by omega)).2
        generalize tb1 left 10 = old at hq1
        have HF := Lib.hid ((HT2.out.set 10 (.int .i64 1)).congr fun j _ => tb1_step (x := 10) (by rfl) j)
        have HR3 := Lib.hid (HR2.out.kept (Below.heap_setCell w' ⟨w.heap.size + 1, 10, none⟩ (.int .i64 1) w.heap.size (by simp)))
        have HB3 := Lib.hid (HB2.out.setCell (p := ⟨w.heap.size + 1, 10, none⟩) (by simp) (.int .i64 1))
        have HRG3 := Lib.hid (HRG2.out.kept (grown_set w' ⟨w.heap.size + 1, 10, none⟩ (.int .i64 1)) (by simp) (by simp; omega))
        clear HT2 HR2 HB2 HRG2
        go_wp2
        go_roundw
        case rel => exact ⟨_, _, HRG3, HF, HR3, HB3, HL2⟩
        case measure => rw [HRG3.out.left_eq, HLK.out]; exact HLT.out
      · simp at hc
        subst hc
        have hq1 := (HT2.out.cell (j := 11) (by omega)).1
        have hq2 := (HT2.out.cell (j := 11) (by omega)).2
        generalize tb1 left 11 = old at hq1
        have HF := Lib.hid ((HT2.out.set 11 (.int .i64 1)).congr fun j _ => tb1_step (x := 11) (by rfl) j)
        have HR3 := Lib.hid (HR2.out.kept (Below.heap_setCell w' ⟨w.heap.size + 1, 11, none⟩ (.int .i64 1) w.heap.size (by simp)))
        have HB3 := Lib.hid (HB2.out.setCell (p := ⟨w.heap.size + 1, 11, none⟩) (by simp) (.int .i64 1))
        have HRG3 := Lib.hid (HRG2.out.kept (grown_set w' ⟨w.heap.size + 1, 11, none⟩ (.int .i64 1)) (by simp) (by simp; omega))
        clear HT2 HR2 HB2 HRG2
        go_wp2
        go_roundw
        case rel => exact ⟨_, _, HRG3, HF, HR3, HB3, HL2⟩
        case measure => rw [HRG3.out.left_eq, HLK.out]; exact HLT.out
      · simp at hc
        subst hc
        have hq1 := (HT2.out.cell (j := 12) (by omega)).1
        have hq2 := (HT2.out.cell (j := 12) (by omega)).2
        generalize tb1 left 12 = old at hq1
        have HF := Lib.hid ((HT2.out.set 12 (.int .i64 4)).congr fun j _ => tb1_step (x := 12) (by rfl) j)
        have HR3 := Lib.hid (HR2.out.kept (Below.heap_setCell w' ⟨w.heap.size + 1, 12, none⟩ (.int .i64 4) w.heap.size (by simp)))
        have HB3 := Lib.hid (HB2.out.setCell (p := ⟨w.heap.size + 1, 12, none⟩) (by simp) (.int .i64 4))
        have HRG3 := Lib.hid (HRG2.out.kept (grown_set w' ⟨w.heap.size + 1, 12, none⟩ (.int .i64 4)) (by simp) (by simp; omega))
        clear HT2 HR2 HB2 HRG2
        go_wp2
        go_roundw
        case rel => exact ⟨_, _, HRG3, HF, HR3, HB3, HL2⟩
        case measure => rw [HRG3.out.left_eq, HLK.out]; exact HLT.out
end Go.Proofs.Ytjifpjfinffamaa
