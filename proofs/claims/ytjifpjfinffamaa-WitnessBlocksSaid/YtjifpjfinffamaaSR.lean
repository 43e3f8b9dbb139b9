/- The world behind the library's sort of a list of the call's own. -/
import Derived.Test.YtjifpjfinffamaaLib4
import Derived.Sort.Grow
import Derived.Sort.Row
namespace Go.Proofs.Ytjifpjfinffamaa
open Go.RowKit Go.Sort

theorem grow_old (w : World) (os : Array Obj) {k : Nat} (hk : k < w.heap.size) : (grow w os).heap[k]? = w.heap[k]? := by
  simp [grow, Array.getElem?_append, hk]
theorem sort_world {w : World} {base g c : Nat} {zs ys : List Int} (h : OwnI w base (some ⟨g, 0, none⟩) c zs) (hl : ys.length = zs.length) (n : Nat) (os : Array Obj) :
    OwnI (grow (putRow (Value.int .i64) (Sort.ahead w n) g 0 ys.toArray) os) base (some ⟨g, 0, none⟩) c ys ∧ w.grownBy (grow (putRow (Value.int .i64) (Sort.ahead w n) g 0 ys.toArray) os) (some g) := by
  have hgw := (h.lt g rfl).2
  have hsz : (putRow (Value.int .i64) (Sort.ahead w n) g 0 ys.toArray).heap.size = w.heap.size := by simp [putRow, mapBlock, Sort.ahead]
  have hoth : ∀ k, k ≠ g → (putRow (Value.int .i64) (Sort.ahead w n) g 0 ys.toArray).heap[k]? = w.heap[k]? := by
    intro k hk
    simp [putRow, mapBlock, Sort.ahead, Array.getElem?_modify, Ne.symm hk]
  constructor
  · unfold OwnI
    refine ⟨by simp [ints], ?_⟩
    rcases h.2 with ⟨h2, _⟩ | ⟨g', cap, cur, hv, hb, hh, hnc, hm, hcs, ht⟩
    · cases h2
    · injection hv with hv1 hv2 hv3
      injection hv1 with hv1
      injection hv1 with hv1
      subst hv1 hv3
      refine .inr ⟨g, c, putCells (Value.int .i64) 0 ys.toArray cur, rfl, hb, ?_, by omega, hm, by simpa [putCells] using hcs, ?_⟩
      · rw [grow_old _ _ (by rw [hsz]; exact hgw)]
        simp [putRow, mapBlock, Sort.ahead, Array.getElem?_modify, hh, onCells]
      · apply List.ext_getElem?
        intro j
        by_cases hj : j < ys.length
        · have hjc : j < cur.size := by omega
          simp [hj, putCells, ints, hjc]
        · simp [List.getElem?_take, hj, ints]
  · refine ⟨rfl, rfl, rfl, ?_, fun k hk hne => ?_⟩
    · simp only [grow, Array.size_append]
      rw [hsz]
      omega
    · rw [grow_old _ _ (by rw [hsz]; exact hk)]
      exact hoth k (fun e => hne (by rw [e]))
end Go.Proofs.Ytjifpjfinffamaa
