/- The laws' arguments, opened: histories. -/
import Derived.Test.YtjifpjfinffamaaX1
import Derived.Test.YtjifpjfinffamaaOA
namespace Go.Proofs.Ytjifpjfinffamaa
open Go.ChangeShapes Go.WideShapes Go.ChangeAt Go.RowKit

theorem cells97 : Try.prog.cellsOf 97 = 6 := by kernel_rfl
theorem bytes97 : Try.prog.bytesOf 97 = 48 := by kernel_rfl
theorem cells95 : Try.prog.cellsOf 95 = 1 := by kernel_rfl
theorem cells40 : Try.prog.cellsOf 40 = 1 := by kernel_rfl
theorem cells4 : Try.prog.cellsOf 4 = 1 := by kernel_rfl
theorem cells28 : Try.prog.cellsOf 28 = 1 := by kernel_rfl
theorem wf_u64_inv {n : Int} (h : (Lit.int .u64 n).wf = true) : 0 ≤ n ∧ n < 18446744073709551616 := by
  simp [Lit.wf, IntKind.min, IntKind.max, IntKind.signed, IntKind.bits] at h
  omega
section
variable {H : Type} {enc : TypeId × Value → H} {w : World} {base : Nat} {r : Reach}

set_option maxRecDepth 100000 in
theorem open_events {v : Value} {d : DataW H} {p : List MemPlace} (hv : Value.okWide Try.prog w r base 22 v) (h : DataW.Trod enc Try.prog w 0 (fun _ => true) true 22 v d p) :
    ∃ (A : Option Addr) (c : Nat) (l : List Ev), v = .slice A l.length c ∧ EvR w w.heap.size A l ∧ (d = .nil ∧ l = [] ∨ ∃ es sp, d = .slice es sp ∧ es.length = l.length) ∧ ∀ x ∈ p, x.block < w.heap.size := by
  obtain ⟨A, len, c, rfl⟩ := okWide_slice Try.underlying22 hv
  obtain ⟨m, hm⟩ := h
  have hlt := DataW.trod_lt m _ _ _ hm
  rcases Go.Deep.open_slice Try.underlying22 hm with ⟨hcs, hx⟩ | ⟨a, len', c', m', n', D, Pl, hcs, _, hl, _, hmm, hx, hi⟩
  · simp [Value.cells] at hcs
    obtain ⟨rfl, rfl, rfl⟩ := hcs
    simp only [Prod.mk.injEq] at hx
    exact ⟨none, 0, [], rfl, ⟨by simp, fun h => absurd h (by simp)⟩, .inl ⟨hx.1, rfl⟩, hlt⟩
  · simp [Value.cells] at hcs
    obtain ⟨rfl, rfl, rfl⟩ := hcs
    simp only [Prod.mk.injEq] at hx
    have hrow : ∀ i, i < len → ∃ x : Ev, x.Wd ∧ w.cell? (a.add (i * 6)) = some (.int .i64 x.th) ∧ w.cell? (a.add (i * 6 + 1)) = some (.int .i64 x.kind) ∧ w.cell? (a.add (i * 6 + 2)) = some (.int .u64 x.addr) ∧
        w.cell? (a.add (i * 6 + 3)) = some (.int .u64 x.word) ∧ w.cell? (a.add (i * 6 + 4)) = some (.bool x.own) ∧ w.cell? (a.add (i * 6 + 5)) = some (.int .i64 x.err) := by
      intro i hil
      obtain ⟨cs, hc, ht⟩ := hi i (by simp at hmm; omega)
      rw [cells97] at hc
      obtain ⟨xs, n, _, _, _, hlen, hf⟩ := DataW.trod_struct Try.underlying97 ht
      obtain ⟨_, hlen2, hat⟩ := World.cells?_some hc
      match cs, hlen2, xs, hlen with
      | [c0, c1, c2, c3, c4, c5], _, [y0, y1, y2, y3, y4, y5], _ =>
        have h0 := hf 0 _ rfl
        have h1 := hf 1 _ rfl
        have h2 := hf 2 _ rfl
        have h3 := hf 3 _ rfl
        have h4 := hf 4 _ rfl
        have h5 := hf 5 _ rfl
        obtain ⟨x0, e0, _, _⟩ := DataW.trod_int Try.underlying3 (show DataW.trod enc Try.prog w 0 (fun _ => true) true n 3 (([c0, c1, c2, c3, c4, c5].drop 0).take (Try.prog.cellsOf 3)) = some y0 from h0)
        obtain ⟨x1, e1, _, _⟩ := DataW.trod_int Try.underlying95 (show DataW.trod enc Try.prog w 0 (fun _ => true) true n 95 (([c0, c1, c2, c3, c4, c5].drop 1).take (Try.prog.cellsOf 95)) = some y1 from h1)
        obtain ⟨x2, e2, _, wf2⟩ := DataW.trod_int Try.underlying40 (show DataW.trod enc Try.prog w 0 (fun _ => true) true n 40 (([c0, c1, c2, c3, c4, c5].drop 2).take (Try.prog.cellsOf 40)) = some y2 from h2)
        obtain ⟨x3, e3, _, wf3⟩ := DataW.trod_int Try.underlying40 (show DataW.trod enc Try.prog w 0 (fun _ => true) true n 40 (([c0, c1, c2, c3, c4, c5].drop 3).take (Try.prog.cellsOf 40)) = some y3 from h3)
        obtain ⟨x4, e4, _⟩ := DataW.trod_bool Try.underlying4 (show DataW.trod enc Try.prog w 0 (fun _ => true) true n 4 (([c0, c1, c2, c3, c4, c5].drop 4).take (Try.prog.cellsOf 4)) = some y4 from h4)
        obtain ⟨x5, e5, _, _⟩ := DataW.trod_int Try.underlying28 (show DataW.trod enc Try.prog w 0 (fun _ => true) true n 28 (([c0, c1, c2, c3, c4, c5].drop 5).take (Try.prog.cellsOf 28)) = some y5 from h5)
        simp [cells3, cells95, cells40, cells4, cells28] at e0 e1 e2 e3 e4 e5
        subst e0 e1 e2 e3 e4 e5
        have q0 := hat 0 (by omega)
        have q1 := hat 1 (by omega)
        have q2 := hat 2 (by omega)
        have q3 := hat 3 (by omega)
        have q4 := hat 4 (by omega)
        have q5 := hat 5 (by omega)
        rw [Go.Deep.add_add] at q0 q1 q2 q3 q4 q5
        have b2 := wf_u64_inv wf2
        have b3 := wf_u64_inv wf3
        exact ⟨⟨x0, x1, x2, x3, x4, x5⟩, ⟨b2, b3⟩, by simpa using q0, by simpa using q1, by simpa using q2, by simpa using q3, by simpa using q4, by simpa using q5⟩
    have hF : ∃ F : Nat → Ev, ∀ i, i < len → (F i).Wd ∧ w.cell? (a.add (i * 6)) = some (.int .i64 (F i).th) ∧ w.cell? (a.add (i * 6 + 1)) = some (.int .i64 (F i).kind) ∧ w.cell? (a.add (i * 6 + 2)) = some (.int .u64 (F i).addr) ∧
        w.cell? (a.add (i * 6 + 3)) = some (.int .u64 (F i).word) ∧ w.cell? (a.add (i * 6 + 4)) = some (.bool (F i).own) ∧ w.cell? (a.add (i * 6 + 5)) = some (.int .i64 (F i).err) := by
      refine ⟨fun i => if h : i < len then (hrow i h).choose else ⟨0, 0, 0, 0, false, 0⟩, fun i hil => ?_⟩
      simp only [hil, dite_true]
      exact (hrow i hil).choose_spec
    obtain ⟨F, hF⟩ := hF
    refine ⟨some a, c, (List.range len).map F, by simp, ⟨fun e he => ?_, fun hpos => ?_⟩, .inr ⟨_, _, hx.1, by simp⟩, hlt⟩
    · obtain ⟨i, hi, rfl⟩ := List.mem_map.1 he
      exact (hF i (List.mem_range.1 hi)).1
    · obtain ⟨b, off, spot⟩ := a
      have hs : spot = none := by
        have := (hF 0 (by simpa using hpos)).2.1
        simpa [Addr.add] using World.cell?_spot this
      subst hs
      refine ⟨b, off, rfl, ?_, fun i hi => ?_⟩
      · have := (hF 0 (by simpa using hpos)).2.1
        exact World.block_lt_of_cell? w _ this
      · have := (hF i (by simpa using hi)).2
        simp only [Addr.add_lit] at this
        simpa [Nat.add_assoc] using this
theorem sized_events {ts : List TypeId} {ds : List (DataW H)} (h : (DataW.weightsEach Try.prog ts ds).all (· ≤ reachBytes) = true) {j : Nat} {d : DataW H} {l : List Ev} (ht : ts[j]? = some 22) (hd : ds[j]? = some d)
    (hq : d = .nil ∧ l = [] ∨ ∃ es sp, d = .slice es sp ∧ es.length = l.length) : l.length * 48 ≤ 140737488351232 := by
  rcases hq with ⟨_, rfl⟩ | ⟨es, sp, rfl, he⟩
  · simp
  · have := sized_slice h ht hd Try.underlying22
    rw [bytes97, he] at this
    simp only [reachBytes] at this
    omega
end
end Go.Proofs.Ytjifpjfinffamaa
