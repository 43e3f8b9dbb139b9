/- The laws' arguments, opened: edges, numbers. -/
import Derived.Test.YtjifpjfinffamaaLib
import Derived.Deep.Strs
import Derived.SizedLaws
import Derived.ProofKit
namespace Go.Proofs.Ytjifpjfinffamaa
open Go.ChangeShapes Go.WideShapes Go.ChangeAt Go.RowKit

theorem Try.own : ownKnob Try.prog.godebug = none := by kernel_rfl
theorem Try.laidOut : laidOutB Try.prog = true := by kernel_rfl
theorem cells3 : Try.prog.cellsOf 3 = 1 := by kernel_rfl
theorem cells67 : Try.prog.cellsOf 67 = 1 := by kernel_rfl
theorem cells69 : Try.prog.cellsOf 69 = 3 := by kernel_rfl
theorem bytes69 : Try.prog.bytesOf 69 = 24 := by kernel_rfl
theorem bytes3 : Try.prog.bytesOf 3 = 8 := by kernel_rfl

section
variable {H : Type} {enc : TypeId × Value → H} {w : World} {base : Nat} {r : Reach}

set_option maxRecDepth 100000 in
theorem open_edges {v : Value} {d : DataW H} {p : List MemPlace} (hv : Value.okWide Try.prog w r base 48 v) (h : DataW.Trod enc Try.prog w 0 (fun _ => true) true 48 v d p) :
    ∃ (A : Option Addr) (c : Nat) (l : List E), v = .slice A l.length c ∧ RE w w.heap.size A l ∧ (d = .nil ∧ l = [] ∨ ∃ es sp, d = .slice es sp ∧ es.length = l.length) ∧ ∀ x ∈ p, x.block < w.heap.size := by
  obtain ⟨A, len, c, rfl⟩ := okWide_slice Try.underlying48 hv
  obtain ⟨m, hm⟩ := h
  have hlt := DataW.trod_lt m _ _ _ hm
  rcases Go.Deep.open_slice Try.underlying48 hm with ⟨hcs, hx⟩ | ⟨a, len', c', m', n', D, Pl, hcs, _, hl, _, hmm, hx, hi⟩
  · simp [Value.cells] at hcs
    obtain ⟨rfl, rfl, rfl⟩ := hcs
    simp only [Prod.mk.injEq] at hx
    exact ⟨none, 0, [], rfl, fun h => absurd h (by simp), .inl ⟨hx.1, rfl⟩, hlt⟩
  · simp [Value.cells] at hcs
    obtain ⟨rfl, rfl, rfl⟩ := hcs
    simp only [Prod.mk.injEq] at hx
    have hrow : ∀ i, i < len → ∃ x : E, w.cell? (a.add (i * 3)) = some (.int .i64 x.f) ∧ w.cell? (a.add (i * 3 + 1)) = some (.int .i64 x.t) ∧ w.cell? (a.add (i * 3 + 2)) = some (.int .i64 x.k) := by
      intro i hil
      obtain ⟨cs, hc, ht⟩ := hi i (by simp at hmm; omega)
      rw [cells69] at hc
      obtain ⟨y0, y1, y2, n2, _, _, h0, h1, h2⟩ := Go.Deep.trod_struct3 Try.underlying69 ht
      obtain ⟨_, hlen, hat⟩ := World.cells?_some hc
      match cs, hlen with
      | [c0, c1, c2], _ =>
        obtain ⟨x0, e0, _, _⟩ := DataW.trod_int Try.underlying3 h0
        obtain ⟨x1, e1, _, _⟩ := DataW.trod_int Try.underlying3 h1
        obtain ⟨x2, e2, _, _⟩ := DataW.trod_int Try.underlying67 h2
        simp [cells3, cells67] at e0 e1 e2
        subst e0 e1 e2
        have q0 := hat 0 (by omega)
        have q1 := hat 1 (by omega)
        have q2 := hat 2 (by omega)
        rw [Go.Deep.add_add] at q0 q1 q2
        exact ⟨⟨x0, x1, x2⟩, by simpa using q0, by simpa using q1, by simpa using q2⟩
    have hF : ∃ F : Nat → E, ∀ i, i < len → w.cell? (a.add (i * 3)) = some (.int .i64 (F i).f) ∧ w.cell? (a.add (i * 3 + 1)) = some (.int .i64 (F i).t) ∧ w.cell? (a.add (i * 3 + 2)) = some (.int .i64 (F i).k) := by
      refine ⟨fun i => if h : i < len then (hrow i h).choose else ⟨0, 0, 0⟩, fun i hil => ?_⟩
      simp only [hil, dite_true]
      exact (hrow i hil).choose_spec
    obtain ⟨F, hF⟩ := hF
    refine ⟨some a, c, (List.range len).map F, by simp, ?_, .inr ⟨_, _, hx.1, by simp⟩, hlt⟩
    intro hpos
    obtain ⟨b, off, spot⟩ := a
    have hs : spot = none := by
      have := (hF 0 (by simpa using hpos)).1
      simpa [Addr.add] using World.cell?_spot this
    subst hs
    refine ⟨b, off, rfl, ?_, fun i hi => ?_⟩
    · have := (hF 0 (by simpa using hpos)).1
      exact World.block_lt_of_cell? w _ this
    · have := hF i (by simpa using hi)
      simp only [Addr.add_lit] at this
      simpa [Nat.add_assoc] using this

set_option maxRecDepth 100000 in
theorem open_nums {v : Value} {d : DataW H} {p : List MemPlace} (hv : Value.okWide Try.prog w r base 31 v) (h : DataW.Trod enc Try.prog w 0 (fun _ => true) true 31 v d p) :
    ∃ (A : Option Addr) (c : Nat) (l : List Int), v = .slice A l.length c ∧ RK .i64 w w.heap.size A l ∧ (d = .nil ∧ l = [] ∨ ∃ es sp, d = .slice es sp ∧ es.length = l.length) ∧ ∀ x ∈ p, x.block < w.heap.size := by
  obtain ⟨A, len, c, rfl⟩ := okWide_slice Try.underlying31 hv
  obtain ⟨m, hm⟩ := h
  have hlt := DataW.trod_lt m _ _ _ hm
  rcases open_ints Try.underlying31 Try.underlying3 cells3 hm with ⟨hcs, hx⟩ | ⟨a, len', c', zs, hcs, _, hl, _, hz, hx, hcell, _⟩
  · simp [Value.cells] at hcs
    obtain ⟨rfl, rfl, rfl⟩ := hcs
    simp only [Prod.mk.injEq] at hx
    exact ⟨none, 0, [], rfl, fun h => absurd h (by simp), .inl ⟨hx.1, rfl⟩, hlt⟩
  · simp [Value.cells] at hcs
    obtain ⟨rfl, rfl, rfl⟩ := hcs
    simp only [Prod.mk.injEq] at hx
    have hz' : zs.length = c := by simpa using hz
    have hlen : (zs.take len).length = len := by simp; omega
    refine ⟨some a, c, zs.take len, by rw [hlen], ?_, .inr ⟨_, _, hx.1, by simp [lits]⟩, hlt⟩
    intro hpos
    obtain ⟨b, off, spot⟩ := a
    have hs : spot = none := by
      have := hcell 0 (by omega)
      simpa [Addr.add] using World.cell?_spot this
    subst hs
    refine ⟨b, off, rfl, ?_, fun i hi => ?_⟩
    · have := hcell 0 (by omega)
      exact World.block_lt_of_cell? w _ this
    · have hi' : i < zs.length := by omega
      have := hcell i hi'
      rw [Addr.add_lit] at this
      simpa [List.getElem_take, hi'] using this

theorem sized_edges {ts : List TypeId} {ds : List (DataW H)} (h : (DataW.weightsEach Try.prog ts ds).all (· ≤ reachBytes) = true) {j : Nat} {d : DataW H} {l : List E} (ht : ts[j]? = some 48) (hd : ds[j]? = some d)
    (hq : d = .nil ∧ l = [] ∨ ∃ es sp, d = .slice es sp ∧ es.length = l.length) : l.length * 24 ≤ 140737488351232 := by
  rcases hq with ⟨_, rfl⟩ | ⟨es, sp, rfl, he⟩
  · simp
  · have := sized_slice h ht hd Try.underlying48
    rw [bytes69, he] at this
    simp only [reachBytes] at this
    omega
theorem sized_nums {ts : List TypeId} {ds : List (DataW H)} (h : (DataW.weightsEach Try.prog ts ds).all (· ≤ reachBytes) = true) {j : Nat} {d : DataW H} {l : List Int} (ht : ts[j]? = some 31) (hd : ds[j]? = some d)
    (hq : d = .nil ∧ l = [] ∨ ∃ es sp, d = .slice es sp ∧ es.length = l.length) : l.length * 8 ≤ 140737488351232 := by
  rcases hq with ⟨_, rfl⟩ | ⟨es, sp, rfl, he⟩
  · simp
  · have := sized_slice h ht hd Try.underlying31
    rw [bytes3, he] at this
    simp only [reachBytes] at this
    omega
end
end Go.Proofs.Ytjifpjfinffamaa
