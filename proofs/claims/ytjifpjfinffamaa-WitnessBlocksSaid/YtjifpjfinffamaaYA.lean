/- Memory: which block of a thread is open, in a map of ints. -/
import Derived.Test.YtjifpjfinffamaaY7
import Derived.Test.YtjifpjfinffamaaV9
import Derived.Maps.Views
import Derived.Maps.OwnSet
namespace Go.Proofs.Ytjifpjfinffamaa
open Go.RowKit Go.Maps

theorem zero3 (w : World) : (zeroValue 3).run Try.prog w = .ok (.int .i64 0) w := by kernel_rfl
theorem tkey (t : Int) (h0 : 0 ≤ t) (h1 : t < 8) : keyOf Try.prog 3 (.int .i64 t) = some (.int .i64 t) := Maps.keyOf_int_mk Try.underlying3 (WalkArith.wf_i64 (by omega))
theorem lit_ne' {x y : Int} (h : x ≠ y) : (Lit.int .i64 x) ≠ Lit.int .i64 y := by
  intro e
  injection e with _ e
  exact h e
/-- the map in block mb says which block of a thread is open -/
def OpM (w : World) (mb m : Nat) (op : Int → Option Nat) : Prop :=
  ∃ D, w.ownsMap (H := Unit) Try.prog 3 (plainElem Try.prog 3) mb m D ∧ IsMap D ∧ ∀ t : Int, 0 ≤ t → t < 8 → (op t = none → has D (.int .i64 t) = false) ∧ ∀ k : Nat, op t = some k → has D (.int .i64 t) = true ∧ ∀ zd, D.atKey (.int .i64 t) zd = .lit (.int .i64 (k : Int))
theorem OpM.lt {w : World} {mb m : Nat} {op : Int → Option Nat} (h : OpM w mb m op) : mb < w.heap.size := by
  obtain ⟨D, h1, _⟩ := h
  exact h1.lt
theorem OpM.kept {w w' : World} {mb m : Nat} {op : Int → Option Nat} (h : OpM w mb m op) (hk : w'.heap[mb]? = w.heap[mb]?) : OpM w' mb m op := by
  obtain ⟨D, ⟨es, ck, h1, h2⟩, h3⟩ := h
  exact ⟨D, ⟨es, ck, hk.trans h1, h2⟩, h3⟩
theorem OpM.start (w : World) : OpM (w.alloc (.map #[] 0)) w.heap.size 0 (fun _ => none) :=
  ⟨.map [], World.ownsMap_made _ _ _ _, ⟨_, rfl⟩, fun t _ _ => ⟨fun _ => rfl, fun k h => by cases h⟩⟩
theorem OpM.not_cells {w : World} {mb m : Nat} {op : Int → Option Nat} (h : OpM w mb m op) {base e s n : Nat} {v : Value} {xs : List Value} (hv : w.ownsRow base e s v n xs) : v.ownBlock ≠ some mb := by
  obtain ⟨D, ⟨es, ck, h1, _⟩, _⟩ := h
  rcases hv.2 with ⟨rfl, _⟩ | ⟨g, cap, cur, rfl, _, hh, _⟩
  · intro e; cases e
  · intro e
    have : g = mb := Option.some.inj e
    subst this
    rw [h1] at hh
    injection hh with hh
    cases hh
set_option maxRecDepth 100000 in
theorem OpM.look {w : World} {mb m : Nat} {op : Int → Option Nat} (h : OpM w mb m op) {t : Int} (h0 : 0 ≤ t) (h1 : t < 8) :
    (op t = none ∧ (Instr.lookup 147 (.map (some mb)) (.int .i64 t) true).run Try.prog w = .ok (.tuple #[.int .i64 0, .bool false]) w) ∨
    ∃ k : Nat, op t = some k ∧ (Instr.lookup 147 (.map (some mb)) (.int .i64 t) true).run Try.prog w = .ok (.tuple #[.int .i64 (k : Int), .bool true]) w := by
  obtain ⟨D, hown, _, h4⟩ := h
  obtain ⟨v, ps, hrun, hv⟩ := hown.look_ok (int_keyed Try.underlying3) Try.underlying147 (zero3 w) (plainElem_int Try.underlying3 (by decide)) (tkey t h0 h1)
  obtain ⟨c, rfl, hc, _⟩ := plainElem_int_inv Try.underlying3 hv
  simp only [Prod.mk.injEq] at hc
  obtain ⟨q1, q2⟩ := h4 t h0 h1
  have hc1 := hc.1
  cases ho : op t with
  | none =>
    left
    refine ⟨rfl, ?_⟩
    have hno := q1 ho
    rw [atKey_of_not_has hno] at hc1
    injection hc1 with hc1
    injection hc1 with _ hc1
    subst hc1
    rw [hrun, hno]
  | some k =>
    right
    refine ⟨k, rfl, ?_⟩
    obtain ⟨a, b⟩ := q2 k ho
    rw [b] at hc1
    injection hc1 with hc1
    injection hc1 with _ hc1
    rw [hrun, a, ← hc1]
set_option maxRecDepth 100000 in
theorem OpM.put {w : World} {mb m : Nat} {op : Int → Option Nat} (h : OpM w mb m op) {t : Int} (h0 : 0 ≤ t) (h1 : t < 8) (hm : m < maxLen) {k : Nat} (hk : k < 4611686018427387904) :
    ∃ w', (Instr.mapUpdate 147 (.map (some mb)) (.int .i64 t) (.int .i64 (k : Int))).run Try.prog w = .ok () w' ∧ OpM w' mb (m + 1) (fun x => if x = t then some k else op x) ∧ w.grownBy w' (some mb) := by
  obtain ⟨D, hown, h3, h4⟩ := h
  obtain ⟨w', hr, ho, hg⟩ := hown.update (int_keyed Try.underlying3) Try.underlying147 hm (tkey t h0 h1) (plainElem_int (a := (k : Int)) Try.underlying3 (WalkArith.wf_i64 (by omega)))
  refine ⟨w', hr, ⟨_, ho, h3.put _ _, fun x hx0 hx1 => ?_⟩, hg⟩
  by_cases e : x = t
  · subst e
    have hik : WideAt.IsKeyLit (Lit.int .i64 x) := trivial
    dsimp only
    rw [if_pos rfl]
    refine ⟨fun q => (by cases q), fun k' q => ?_⟩
    injection q with q
    subst q
    exact ⟨has_put_same h3 hik _, fun zd => atKey_put_same h3 hik _ zd⟩
  · dsimp only
    rw [if_neg e]
    refine ⟨fun q => by rw [has_put_other (lit_ne' e)]; exact (h4 x hx0 hx1).1 q, fun k' q => ?_⟩
    obtain ⟨a, b⟩ := (h4 x hx0 hx1).2 k' q
    exact ⟨by rw [has_put_other (lit_ne' e)]; exact a, fun zd => by rw [atKey_put_other (lit_ne' e)]; exact b zd⟩
set_option maxRecDepth 100000 in
theorem OpM.drop {w : World} {mb m : Nat} {op : Int → Option Nat} (h : OpM w mb m op) {t : Int} (h0 : 0 ≤ t) (h1 : t < 8) (ty : TypeId) :
    ∃ w', (Builtin.delete_ #[147, 3] ty #[.map (some mb), .int .i64 t]).run Try.prog w = .ok (.tuple #[]) w' ∧ OpM w' mb m (fun x => if x = t then none else op x) ∧ w.grownBy w' (some mb) := by
  obtain ⟨D, hown, h3, h4⟩ := h
  obtain ⟨w', hr, ho, hg⟩ := hown.drop (int_keyed Try.underlying3) Try.underlying147 (tkey t h0 h1) ty
  refine ⟨w', hr, ⟨_, ho, h3.del _, fun x hx0 hx1 => ?_⟩, hg.grown⟩
  by_cases e : x = t
  · subst e
    dsimp only
    rw [if_pos rfl]
    exact ⟨fun _ => has_del_same, fun k' q => by cases q⟩
  · dsimp only
    rw [if_neg e]
    refine ⟨fun q => by rw [has_del_other (lit_ne' e)]; exact (h4 x hx0 hx1).1 q, fun k' q => ?_⟩
    obtain ⟨a, b⟩ := (h4 x hx0 hx1).2 k' q
    exact ⟨by rw [has_del_other (lit_ne' e)]; exact a, fun zd => by rw [atKey_del_other (lit_ne' e)]; exact b zd⟩
end Go.Proofs.Ytjifpjfinffamaa
