/- FreeNested: what its first loop computes; the boxes ahead of how. -/
import Derived.Test.YtomcobcmjocapaaGreatDoorOO
namespace Go.Proofs.YtomcobcmjocapaaGreatDoor
open Go.RowKit Go.MuLone
/-- is a cell that is got stored otherwise, among the first k gets -/
def chgB (first : List Int) (gets : List Nat) (a : Nat) (xw : Int) (k : Nat) : Bool := (gets.take k).any fun x => decide (x % first.length = a) && (first.getD a 0 != xw)
theorem chgB_succ {first : List Int} {gets : List Nat} {a y k : Nat} {xw v : Int} (hy : gets[k]? = some y) (hv : first[a]? = some v) : chgB first gets a xw (k + 1) = (chgB first gets a xw k || (decide (y % first.length = a) && (v != xw))) := by
  have hd : first.getD a 0 = v := by simp [List.getD, hv]
  unfold chgB
  rw [List.take_add_one, hy, List.any_append, hd]
  simp
/-- the boxes, ahead of how, calls, fine -/
structure EnvP (w : World) (X : NX) : Prop where
  f : w.cell? ⟨X.H, 0, none⟩ = some (.slice X.A X.first.length X.c)
  x : ∀ i, i < 6 → w.cell? ⟨X.H + 1, i, none⟩ = some (nxF X i)
  s : w.cell? ⟨X.H + 2, 0, none⟩ = some (.int .u64 X.first.length)
  m : w.cell? ⟨X.K, 0, none⟩ = some (.pointer (some ⟨X.m, 0, none⟩))
  a : w.cell? ⟨X.K + 1, 0, none⟩ = some (.int .u64 X.a)
  g : w.cell? ⟨X.K + 2, 0, none⟩ = some (.bool X.chg) ∧ w.frozen? ⟨X.K + 2, 0, none⟩ = false
  rf : RK .u64 w X.H X.A X.first
  rg : RK .u64 w X.H X.B (X.gets.map fun (n : Nat) => (n : Int))
  hk : X.H + 3 ≤ X.K
  sz : w.heap.size = X.K + 3
theorem EnvP.drewN {w : World} {X : NX} (h : EnvP w X) (n : Nat) : EnvP (w.drewN n) X := ⟨h.f, h.x, h.s, h.m, h.a, h.g, h.rf.keep fun _ _ => rfl, h.rg.keep fun _ _ => rfl, h.hk, h.sz⟩
theorem EnvP.drewN1 {w : World} {X : NX} (h : EnvP w X) : EnvP w.drew X := h.drewN 1
theorem EnvP.set {w : World} {X : NX} (h : EnvP w X) (y : Bool) : EnvP (w.setCell ⟨X.K + 2, 0, none⟩ (.bool y)) { X with chg := y } := by
  have hs : ∀ k, k ≠ X.K + 2 → (w.setCell ⟨X.K + 2, 0, none⟩ (.bool y)).heap[k]? = w.heap[k]? := fun k hk => Below.heap_setCell w ⟨X.K + 2, 0, none⟩ _ k hk
  have e : ∀ k i, k ≠ X.K + 2 → (w.setCell ⟨X.K + 2, 0, none⟩ (.bool y)).cell? ⟨k, i, none⟩ = w.cell? ⟨k, i, none⟩ := fun k i hh => World.cell?_of_block (hs k hh)
  have hk := h.hk
  have r : ∀ p : Addr, p.block < X.H → (w.setCell ⟨X.K + 2, 0, none⟩ (.bool y)).cell? p = w.cell? p := fun p hp => World.cell?_of_block (hs _ (by omega))
  exact ⟨(e X.H 0 (by omega)).trans h.f, fun i hi => (e (X.H + 1) i (by omega)).trans (h.x i hi), (e (X.H + 2) 0 (by omega)).trans h.s, (e X.K 0 (by omega)).trans h.m, (e (X.K + 1) 0 (by omega)).trans h.a,
    ⟨World.cell?_setCell_same w ⟨X.K + 2, 0, none⟩ _ h.g.1, by rw [World.frozen?_setCell]; exact h.g.2⟩, h.rf.keep r, h.rg.keep r, hk, by simpa using h.sz⟩
/-- the boxes and how, calls, fine, and what Atomically lays -/
theorem env_of {wr w5 : World} {X : NX} (h : EnvP wr X) (z : Value) (hf : Int) (hb : Below wr.heap.size wr w5) (hs : w5.heap.size = X.K + 6) (h3 : w5.cell? ⟨X.K + 3, 0, none⟩ = some (.int .i64 hf))
    (h4 : w5.heap[X.K + 4]? = some (.cells #[.int .i64 0] 3 (0, 0))) (h5 : w5.heap[X.K + 5]? = some (.cells #[.bool true] 4 (0, 0))) : EnvR (w5.alloc (.cells #[z] 38)) { X with how := hf, z := z } 0 true := by
  have hk := h.hk
  have hsz := h.sz
  have hb6 : Below w5.heap.size w5 (w5.alloc (.cells #[z] 38)) := (Below.refl _ w5).alloc (Nat.le_refl _) _
  have hbb : Below wr.heap.size wr (w5.alloc (.cells #[z] 38)) := hb.trans (hb6.mono hb.size)
  have e : ∀ k i, k < X.K + 3 → (w5.alloc (.cells #[z] 38)).cell? ⟨k, i, none⟩ = wr.cell? ⟨k, i, none⟩ := fun k i hk => hbb.cell (p := ⟨k, i, none⟩) (show k < wr.heap.size by omega)
  have e4 : (w5.alloc (.cells #[z] 38)).heap[X.K + 4]? = some (.cells #[.int .i64 0] 3 (0, 0)) := (hb6.block _ (by omega)).trans h4
  have e5 : (w5.alloc (.cells #[z] 38)).heap[X.K + 5]? = some (.cells #[.bool true] 4 (0, 0)) := (hb6.block _ (by omega)).trans h5
  refine ⟨(e X.H 0 (by omega)).trans h.f, fun i hi => (e (X.H + 1) i (by omega)).trans (h.x i hi), (e (X.H + 2) 0 (by omega)).trans h.s, (e X.K 0 (by omega)).trans h.m, (e (X.K + 1) 0 (by omega)).trans h.a, (e (X.K + 2) 0 (by omega)).trans h.g.1, ?_, ⟨cell_of_row _ _ 0 _ _ _ e4, by simp [World.frozen?, e4]⟩, ⟨cell_of_row _ _ 0 _ _ _ e5, by simp [World.frozen?, e5]⟩, h.rf.below (hbb.mono (by omega)), h.rg.below (hbb.mono (by omega)), ?_, hk⟩
  · exact (hb6.cell (p := ⟨X.K + 3, 0, none⟩) (show X.K + 3 < w5.heap.size by omega)).trans h3
  · exact cell_of_row _ _ 0 _ _ _ (heap_at w5 _ _ hs)
/-- what was got is stored otherwise: as the program reckons -/
theorem chg_oth (X : NX) (hn : 0 < X.first.length) (ha : X.a < X.first.length) : chgB X.first X.gets X.a X.xw X.gets.length = othB (gR X X.first X.gets.length) (X.first.set X.a X.xw) := by
  unfold chgB gR othB
  rw [List.take_length, List.any_map]
  congr 1
  funext x
  have hx : x % X.first.length < X.first.length := Nat.mod_lt _ hn
  simp only [Function.comp, Int.toNat_natCast]
  by_cases e : x % X.first.length = X.a
  · rw [e]
    simp [List.getD, List.getElem?_set_self ha]
    exact bne_comm
  · have e' : ¬ X.a = x % X.first.length := fun h => e h.symm
    simp [List.getD, List.getElem?_set_ne e', e]
end Go.Proofs.YtomcobcmjocapaaGreatDoor
