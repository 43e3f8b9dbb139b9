/- What graph.Order holds in memory: the order, the heap, the counts; each change to it. -/
import Derived.Test.YtjifpjfinffamaaM4
import Derived.Test.YtjifpjfinffamaaH5
namespace Go.Proofs.Ytjifpjfinffamaa
open Go.RowKit

theorem OwnI.kept {w w' : World} {base : Nat} {A : Option Addr} {c : Nat} {xs : List Int} (h : OwnI w base A c xs) (hk : ∀ k, (Value.slice A xs.length c).ownBlock = some k → w'.heap[k]? = w.heap[k]?) : OwnI w' base A c xs := by
  refine ⟨h.1, ?_⟩
  rcases h.2 with h2 | ⟨g, cap, cur, hv, hbg, hh, h3⟩
  · exact .inl h2
  · exact .inr ⟨g, cap, cur, hv, hbg, (hk g (by rw [hv]; rfl)).trans hh, h3⟩
theorem own_kept {w w' : World} {base g n c : Nat} {xs : List Value} (h : w.ownsRow base 3 1 (.slice (some ⟨g, 0, none⟩) n c) n xs) (hk : w'.heap[g]? = w.heap[g]?) : w'.ownsRow base 3 1 (.slice (some ⟨g, 0, none⟩) n c) n xs := by
  refine ⟨h.1, ?_⟩
  rcases h.2 with h2 | ⟨g', cap, cur, hv, hbg, hh, h3⟩
  · exact .inl h2
  · refine .inr ⟨g', cap, cur, hv, hbg, ?_, h3⟩
    injection hv with hv
    injection hv with hv
    injection hv with hv
    rw [← hv, hk, hv]
    exact hh

structure OW (N p g0 : Nat) (w2 wr : World) (xs hs : List Int) (A : Option Addr) (c : Nat) (B : Option Addr) (cB : Nat) (ah : List Int) : Prop where
  order : OwnI wr (p + 1) B cB xs
  heap : HS wr p (.slice A hs.length c) hs
  ahead : wr.ownsRow g0 3 1 (.slice (some ⟨g0, 0, none⟩) N N) N (ints ah)
  apart : ∀ k, (Value.slice B xs.length cB).ownBlock = some k → (Value.slice A hs.length c).ownBlock ≠ some k
  below : Below g0 w2 wr
  gp : g0 < p
theorem OW.pw {N p g0 : Nat} {w2 wr : World} {xs hs ah : List Int} {A B : Option Addr} {c cB : Nat} (h : OW N p g0 w2 wr xs hs A c B cB ah) : p < wr.heap.size := (Array.getElem?_eq_some_iff.1 h.heap.1).1
theorem OW.moves {N p g0 : Nat} {w2 wr w' : World} {xs hs hs' ah : List Int} {A A' B : Option Addr} {c c' cB : Nat} (h : OW N p g0 w2 wr xs hs A c B cB ah)
    (hs2 : HS w' p (.slice A' hs'.length c') hs') (hm : Moves wr w' p (.slice A hs.length c) (.slice A' hs'.length c')) : OW N p g0 w2 w' xs hs' A' c' B cB ah := by
  have hgp := h.gp
  have hpw := h.pw
  refine ⟨h.order.kept fun k hk => ?_, hs2, own_kept h.ahead ?_, fun k hk => ?_, ?_, hgp⟩
  · have hk2 := h.order.lt k hk
    exact hm.block k hk2.2 (by omega) (h.apart k hk)
  · exact hm.block g0 (by omega) (by omega) (fun hc => by have := (h.heap.2.lt g0 hc).1; omega)
  · have hk2 := h.order.lt k hk
    rcases hm.row with h1 | h1
    · rw [h1]; exact h.apart k hk
    · intro hc
      have := h1 k hc
      omega
  · refine ⟨hm.os.trans h.below.os, hm.tape.trans h.below.tape, hm.output.trans h.below.output, Nat.le_trans h.below.size hm.size, fun k hk => ?_⟩
    exact (hm.block k (by omega) (by omega) (fun hc => by have := (h.heap.2.lt k hc).1; omega)).trans (h.below.block k hk)
theorem OW.push {N p g0 : Nat} {w2 wr w' : World} {xs hs ah : List Int} {A B : Option Addr} {c cB g c' : Nat} {x : Int} (h : OW N p g0 w2 wr xs hs A c B cB ah)
    (hown : w'.ownsRow (p + 1) 3 1 (.slice (some ⟨g, 0, none⟩) (xs.length + 1) c') (xs.length + 1) (ints xs ++ [.int .i64 x]))
    (hg : wr.grownBy w' (Value.slice B xs.length cB).ownBlock) (hrow : (Value.slice B xs.length cB).ownBlock = some g ∨ wr.heap.size ≤ g) : OW N p g0 w2 w' (xs ++ [x]) hs A c (some ⟨g, 0, none⟩) c' ah := by
  have hgp := h.gp
  have hpw := h.pw
  have hlt := h.order.lt
  have e : ints (xs ++ [x]) = ints xs ++ [Value.int .i64 x] := by simp [ints]
  have el : (xs ++ [x]).length = xs.length + 1 := by simp
  refine ⟨?_, ⟨(hg.block p hpw (fun hc => by have := hlt p hc.symm; omega)).trans h.heap.1, ?_⟩, own_kept h.ahead ?_, fun k hk => ?_, ?_, hgp⟩
  · unfold OwnI
    rw [e, el]
    exact hown
  · exact OwnI.kept (h.heap.2 : OwnI wr (p + 1) A c hs) fun k hk => hg.block k (h.heap.2.lt k hk).2 (fun hc => h.apart k hc.symm hk)
  · exact hg.block g0 (by omega) (fun hc => by have := hlt g0 hc.symm; omega)
  · have hk2 : g = k := by simpa [Value.ownBlock] using hk
    subst hk2
    rcases hrow with h1 | h1
    · exact h.apart g h1
    · intro hc
      have := (h.heap.2.lt g hc).2
      omega
  · exact h.below.grown hg (by omega) fun k hk => by have := hlt k hk; omega
theorem OW.set {N p g0 : Nat} {w2 wr : World} {xs hs ah : List Int} {A B : Option Addr} {c cB : Nat} (h : OW N p g0 w2 wr xs hs A c B cB ah) (t : Nat) (x : Int) :
    OW N p g0 w2 (wr.setCell ⟨g0, t, none⟩ (.int .i64 x)) xs hs A c B cB (ah.set t x) := by
  have hgp := h.gp
  have ho : ∀ k, k ≠ g0 → (wr.setCell ⟨g0, t, none⟩ (.int .i64 x)).heap[k]? = wr.heap[k]? := fun k hk => heap_setCell_other wr ⟨g0, t, none⟩ k _ (by simpa using hk)
  refine ⟨h.order.kept fun k hk => ho k (by have := (h.order.lt k hk).1; omega), ⟨(ho p (by omega)).trans h.heap.1, ?_⟩, own_set h.ahead t x, h.apart, h.below.setCell (Nat.le_refl _) _, hgp⟩
  exact OwnI.kept (h.heap.2 : OwnI wr (p + 1) A c hs) fun k hk => ho k (by have := (h.heap.2.lt k hk).1; omega)
theorem OW.alloc {N p g0 : Nat} {w2 wr : World} {xs hs ah : List Int} {A B : Option Addr} {c cB : Nat} (h : OW N p g0 w2 wr xs hs A c B cB ah) (o : Obj) : OW N p g0 w2 (wr.alloc o) xs hs A c B cB ah := by
  have hgp := h.gp
  have hpw := h.pw
  have ho : ∀ k, k < wr.heap.size → (wr.alloc o).heap[k]? = wr.heap[k]? := fun k hk => heap_alloc_old wr o hk
  refine ⟨h.order.kept fun k hk => ho k (h.order.lt k hk).2, ⟨(ho p hpw).trans h.heap.1, ?_⟩, own_kept h.ahead (ho g0 (by omega)), h.apart, h.below.alloc (by omega) o, hgp⟩
  exact OwnI.kept (h.heap.2 : OwnI wr (p + 1) A c hs) fun k hk => ho k (h.heap.2.lt k hk).2
theorem OW.drew {N p g0 : Nat} {w2 wr : World} {xs hs ah : List Int} {A B : Option Addr} {c cB : Nat} (h : OW N p g0 w2 wr xs hs A c B cB ah) : OW N p g0 w2 wr.drew xs hs A c B cB ah := ⟨h.order, h.heap, h.ahead, h.apart, h.below.drew, h.gp⟩

/-- struck out while node x's edges go out: the first q of them too -/
def DR (l : List E) (xs : List Int) (x q : Nat) : Nat → Bool := fun k => decide ((eg l k).f ∈ xs) || decide ((k : Int) ∈ (outRow l x l.length).take q)
theorem DR.start (l : List E) (xs : List Int) (x : Nat) : ∀ k, k < l.length → DX l xs k = DR l xs x 0 k := by
  intro k _
  simp [DR, DX]
theorem DR.fin (l : List E) (xs : List Int) (x : Nat) : ∀ k, k < l.length → DR l xs x (outRow l x l.length).length k = DX l (xs ++ [(x : Int)]) k := by
  intro k hk
  unfold DR DX
  rw [List.take_length]
  have : ((k : Int) ∈ outRow l x l.length) ↔ (eg l k).f = (x : Int) := by
    constructor
    · intro h
      obtain ⟨j, hj, _, hf⟩ := mem_outRow h
      have : j = k := by omega
      subst this
      exact hf
    · intro h
      exact outRow_mem hk h
  simp [this, List.mem_append]
theorem DR.next {l : List E} {xs : List Int} {x q i : Nat} (hx : (x : Int) ∉ xs) (hi : (outRow l x l.length)[q]? = some (i : Int)) :
    DR l xs x q i = false ∧ ∀ k, k < l.length → DR l xs x (q + 1) k = del (DR l xs x q) i k := by
  obtain ⟨j, hj, hjl, hjf⟩ := mem_outRow (List.mem_of_getElem? hi)
  have : i = j := by omega
  subst this
  constructor
  · unfold DR
    simp only [Bool.or_eq_false_iff, decide_eq_false_iff_not]
    refine ⟨by rw [hjf]; exact hx, fun hc => ?_⟩
    obtain ⟨q0, hq0, he⟩ := List.mem_iff_getElem.1 hc
    have hs := outRow_sorted l x l.length
    rw [List.length_take] at hq0
    rw [List.getElem_take] at he
    have hql := (List.getElem?_eq_some_iff.1 hi)
    obtain ⟨hq1, hq2⟩ := hql
    have := List.pairwise_iff_getElem.1 hs q0 q (by omega) hq1 (by omega)
    rw [he, hq2] at this
    omega
  · intro k _
    unfold DR del
    rw [List.take_add_one, hi]
    simp only [Option.toList_some, List.mem_append, List.mem_singleton, Bool.decide_or, Bool.or_assoc]
    congr 2
    simp
    exact ⟨fun h => by omega, fun h => by omega⟩
end Go.Proofs.Ytjifpjfinffamaa
