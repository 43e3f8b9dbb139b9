/- FreeNested's arguments, opened. -/
import Derived.Test.YtomcobcmjocapaaGreatDoorF
import Derived.Deep.Strs
import Derived.SizedLaws
import Derived.ProofKit
import Derived.Lib.SmallJoins
namespace Go.Proofs.YtomcobcmjocapaaGreatDoor
open Go.ChangeShapes Go.WideShapes Go.ChangeAt Go.RowKit

theorem Tryz.own : ownKnob Tryz.prog.godebug = none := by kernel_rfl
theorem Tryz.laidOut : laidOutB Tryz.prog = true := by kernel_rfl
theorem cells23 : Tryz.prog.cellsOf 23 = 1 := by kernel_rfl
theorem cells25 : Tryz.prog.cellsOf 25 = 6 := by kernel_rfl
theorem wf_u64_inv {n : Int} (h : (Lit.int .u64 n).wf = true) : 0 ≤ n ∧ n < 18446744073709551616 := by
  simp [Lit.wf, IntKind.min, IntKind.max, IntKind.signed, IntKind.bits] at h
  omega
theorem nats_of {l : List Int} (h : ∀ x ∈ l, 0 ≤ x) : ∃ g : List Nat, l = g.map fun (n : Nat) => (n : Int) := by
  refine ⟨l.map Int.toNat, ?_⟩
  rw [List.map_map]
  conv => lhs; rw [← List.map_id l]
  exact List.map_congr_left fun x hx => by have := h x hx; simp [Function.comp]; omega
theorem array6 {α : Type} {cs : Array α} (h : cs.size = 6) : ∃ c0 c1 c2 c3 c4 c5, cs = #[c0, c1, c2, c3, c4, c5] := by
  obtain ⟨l⟩ := cs
  match l, h with
  | [c0, c1, c2, c3, c4, c5], _ => exact ⟨c0, c1, c2, c3, c4, c5, rfl⟩
theorem list6 {α : Type} {cs : List α} (h : cs.length = 6) : ∃ c0 c1 c2 c3 c4 c5, cs = [c0, c1, c2, c3, c4, c5] := by
  match cs, h with
  | [c0, c1, c2, c3, c4, c5], _ => exact ⟨c0, c1, c2, c3, c4, c5, rfl⟩

section
variable {H : Type} {enc : TypeId × Value → H} {w : World} {base : Nat} {r : Reach}

set_option maxRecDepth 100000 in
theorem open_u64s {v : Value} {n : Nat} {x : DataW H × List MemPlace} (hm : DataW.trod enc Tryz.prog w 0 (fun _ => true) true n 22 [v] = some x) :
    ∃ (A : Option Addr) (c : Nat) (l : List Int), v = .slice A l.length c ∧ RK .u64 w w.heap.size A l ∧ ∀ y ∈ l, 0 ≤ y := by
  rcases open_ints Tryz.underlying22 Tryz.underlying23 cells23 hm with ⟨hcs, hx⟩ | ⟨a, len', c', zs, hcs, _, hl, _, hz, hx, hcell, hwf⟩
  · simp at hcs
    exact ⟨none, 0, [], hcs, fun h => absurd h (by simp), fun y hy => by cases hy⟩
  · simp at hcs
    have hz' : zs.length = c' := by simpa using hz
    have hlen : (zs.take len').length = len' := by simp; omega
    refine ⟨some a, c', zs.take len', by rw [hlen]; exact hcs, ?_, fun y hy => (wf_u64_inv (hwf y (List.mem_of_mem_take hy))).1⟩
    intro hpos
    obtain ⟨b, off, spot⟩ := a
    have h0 := hcell 0 (by rw [hlen] at hpos; omega)
    have hs : spot = none := by simpa [Addr.add] using World.cell?_spot h0
    subst hs
    refine ⟨b, off, rfl, World.block_lt_of_cell? w _ h0, fun i hi => ?_⟩
    rw [hlen] at hi
    have h1 := hcell i (by omega)
    rw [Addr.add_lit] at h1
    rw [h1]
    simp [List.getD, List.getElem?_eq_getElem (show i < zs.length by omega)]

set_option maxRecDepth 100000 in
theorem open_first {v : Value} {d : DataW H} {p : List MemPlace} (hv : Value.okWide Tryz.prog w r base 22 v) (h : DataW.Trod enc Tryz.prog w 0 (fun _ => true) true 22 v d p) :
    ∃ (A : Option Addr) (c : Nat) (l : List Int), v = .slice A l.length c ∧ RK .u64 w w.heap.size A l ∧ ∀ x ∈ p, x.block < w.heap.size := by
  obtain ⟨A, len, c, rfl⟩ := okWide_slice Tryz.underlying22 hv
  obtain ⟨m, hm⟩ := h
  have hlt := DataW.trod_lt m _ _ _ hm
  obtain ⟨A', c', l, hv, hr, _⟩ := open_u64s (v := .slice A len c) (by simpa [Value.cells] using hm)
  exact ⟨A', c', l, hv, hr, hlt⟩

set_option maxRecDepth 100000 in
theorem open_nest {v : Value} {d : DataW H} {p : List MemPlace} (hv : Value.okWide Tryz.prog w r base 25 v) (h : DataW.Trod enc Tryz.prog w 0 (fun _ => true) true 25 v d p) :
    ∃ (B : Option Addr) (c : Nat) (gets : List Nat) (xa : Nat) (xw : Int) (more : Bool) (xp xh : Int), v = .agg #[.slice B gets.length c, .int .u64 xa, .int .u64 xw, .bool more, .int .u64 xp, .int .i64 xh] ∧
      RK .u64 w w.heap.size B (gets.map fun (n : Nat) => (n : Int)) ∧ ∀ x ∈ p, x.block < w.heap.size := by
  obtain ⟨cs, rfl, hsz⟩ := okWide_struct Tryz.underlying25 hv
  obtain ⟨v0, v1, v2, v3, v4, v5, rfl⟩ := array6 (hsz.trans cells25)
  obtain ⟨m, hm⟩ := h
  have hlt := DataW.trod_lt m _ _ _ hm
  obtain ⟨xs, n, _, hx, _, hlen, hf⟩ := DataW.trod_struct Tryz.underlying25 hm
  obtain ⟨y0, y1, y2, y3, y4, y5, rfl⟩ := list6 hlen
  have c3 : Tryz.prog.cellsOf 3 = 1 := by kernel_rfl
  have c4 : Tryz.prog.cellsOf 4 = 1 := by kernel_rfl
  have c22 : Tryz.prog.cellsOf 22 = 1 := by kernel_rfl
  have h0 := hf 0 _ rfl
  have h1 := hf 1 _ rfl
  have h2 := hf 2 _ rfl
  have h3 := hf 3 _ rfl
  have h4 := hf 4 _ rfl
  have h5 := hf 5 _ rfl
  simp [Value.cells, c3, c4, c22, cells23] at h0 h1 h2 h3 h4 h5
  obtain ⟨B, c, l, rfl, hr, hnn⟩ := open_u64s h0
  obtain ⟨z1, e1, _, wf1⟩ := DataW.trod_int Tryz.underlying23 h1
  obtain ⟨z2, e2, _, _⟩ := DataW.trod_int Tryz.underlying23 h2
  obtain ⟨z3, e3, _⟩ := DataW.trod_bool Tryz.underlying4 h3
  obtain ⟨z4, e4, _, _⟩ := DataW.trod_int Tryz.underlying23 h4
  obtain ⟨z5, e5, _, _⟩ := DataW.trod_int Tryz.underlying3 h5
  simp at e1 e2 e3 e4 e5
  subst e1 e2 e3 e4 e5
  obtain ⟨g, rfl⟩ := nats_of hnn
  obtain ⟨xa, rfl⟩ : ∃ xa : Nat, z1 = (xa : Int) := ⟨z1.toNat, by have := (wf_u64_inv wf1).1; omega⟩
  exact ⟨B, c, g, xa, z2, z3, z4, z5, by simp, hr, hlt⟩
end
end Go.Proofs.YtomcobcmjocapaaGreatDoor
