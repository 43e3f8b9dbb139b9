/- The library's slices.Backward over a list of nodes: what its closure hands to a loop. -/
import Derived.RangeFuncWrites
import Derived.RangeFuncNested
import Derived.RangeFuncBound
import Derived.RangeFuncCalls
import Derived.RangeFuncLeaves
import Derived.RangeFuncBox
import Derived.Shelf.Abstract
import Derived.WalkKit
import Derived.OwnWalkIn
import Derived.TacticsInMore
import Derived.LoopNIn
import Derived.LoopIn
import Derived.Maps.OwnIn
import Derived.Test.YtjifpjfinffamaaLib4
import Derived.Test.YtjifpjfinffamaaM3
namespace Go.Proofs.Ytjifpjfinffamaa
open Go.RowKit Go.Shelf

attribute [local go_sem] Oper.semAt_some

/-- a node and its place in the order -/
abbrev ND (N : Nat) := { p : Nat × Nat // p.1 < 65536 ∧ (p.2 < N ∨ N = 0) }
def ndEnc {N : Nat} (x : ND N) : Array Value := #[Value.int .i64 (x.1.1 : Int), Value.int .i64 (x.1.2 : Int)]
/-- a round leaves what lay, but for two blocks -/
def Kq (n₁ b₁ b₂ : Nat) (W W' : World) : Prop := ∀ k, k < n₁ → k ≠ b₁ → k ≠ b₂ → W'.heap[k]? = W.heap[k]?
theorem Kq.trans {n₁ b₁ b₂ : Nat} {A B C : World} (h : Kq n₁ b₁ b₂ A B) (h' : Kq n₁ b₁ b₂ B C) : Kq n₁ b₁ b₂ A C := fun k hk h1 h2 => (h' k hk h1 h2).trans (h k hk h1 h2)

set_option maxRecDepth 100000 in
set_option maxHeartbeats 2000000 in
theorem back1_in {N : Nat} (n : Nat) (hn : 1 ≤ n) (l Bs n₁ b₁ b₂ b : Nat) (c : Nat) (xs : List Int) (hxl : xs.length ≤ 65536) (el : Nat → ND N) (hel : ∀ k, k < xs.length → (el k).1.1 = xs.length - 1 - k ∧ ((el k).1.2 : Int) = nth xs (xs.length - 1 - k))
    (J Jx : List (ND N) → World → Prop)
    (hY : ∀ pre x W, J pre W → pre.length < xs.length → YieldAt Fence.wide (n - 1) Try.prog l (ndEnc x) W fun e W' =>
      (e = .returned (.bool true) ∧ J (pre ++ [x]) W' ∧ Kq n₁ b₁ b₂ W W') ∨ (e = .returned (.bool false) ∧ Jx (pre ++ [x]) W'))
    (W : World) (A : Option Addr) (hBs : W.cell? ⟨Bs, 0, none⟩ = some (.slice A xs.length c)) (hB : Bs < n₁ ∧ Bs ≠ b₁ ∧ Bs ≠ b₂)
    (hA : 0 < xs.length → A = some ⟨b, 0, none⟩ ∧ (b < n₁ ∧ b ≠ b₁ ∧ b ≠ b₂) ∧ ∀ j, j < xs.length → W.cell? ⟨b, j, none⟩ = some (.int .i64 (nth xs j))) (h0 : J [] W) :
    CallsIn Fence.wide n Try.prog 101 #[.func (.yield l) #[] #[], .pointer (some ⟨Bs, 0, none⟩)] W fun e W' => (∃ v, e = .returned v) ∧
      ((∃ ys, ys = (List.range xs.length).map el ∧ J ys W') ∨ (∃ pre, True ∧ Jx pre W')) := by
  have HA := Lib.hid hA
  have HEL := Lib.hid hel
  clear hA hel
  refine callsIn_of_wp Try.func101 rfl trivial ?_ rfl
  simp only [Try.ntmps101, List.size_toArray, List.length_cons, List.length_nil, Nat.reduceAdd, Nat.reduceSub, Array.replicate_succ, Array.replicate_zero, List.push_toArray, List.append_toArray, List.nil_append, List.cons_append]
  gi_wp2
  gi_loopw [3] (fun i wr => ∃ k : Nat, k ≤ xs.length ∧ i = .int .i64 ((xs.length : Int) - 1 - k) ∧ J ((List.range k).map el) wr ∧ Hid (Kq n₁ b₁ b₂ W wr))
    (fun i _ => (intOf i + 1).toNat)
  case atStart => exact ⟨0, Nat.zero_le _, by simp, h0, Lib.hid fun _ _ _ _ => rfl⟩
  case round =>
    obtain ⟨k, hk, rfl, hJs, HK⟩ := hrel
    by_cases hlt : k < xs.length
    · obtain ⟨hA1, hb, hcs⟩ := HA.out (by omega)
      subst hA1
      obtain ⟨j, hj⟩ : ∃ j, j = xs.length - 1 - k := ⟨_, rfl⟩
      have hji : (xs.length : Int) - 1 - k = (j : Int) := by omega
      have hjl : j < xs.length := by omega
      obtain ⟨he1, he2⟩ := HEL.out k hlt
      rw [← hj] at he1 he2
      have hcB : wr.cell? ⟨Bs, 0, none⟩ = some (.slice (some ⟨b, 0, none⟩) xs.length c) := by
        rw [World.cell?_of_block (HK.out Bs hB.1 hB.2.1 hB.2.2)]; exact hBs
      have hcx : wr.cell? ⟨b, j, none⟩ = some (.int .i64 (nth xs j)) := by
        rw [World.cell?_of_block (HK.out b hb.1 hb.2.1 hb.2.2)]; exact hcs j hjl
      have hy0 := hY ((List.range k).map el) (el k) wr hJs (by simpa using hlt)
      unfold ndEnc at hy0
      rw [he1, he2] at hy0
      obtain ⟨fn, tmps, assign, body, hy, hR⟩ := hy0
      have i1 : (0 : Int) ≤ (j : Int) := by omega
      have i2 : (j : Int) < (xs.length : Int) := by omega
      rw [hji]
      have HJJ := Lib.hid hj
      clear he1 he2 hcs hji hj
      gi_wp2
      refine hR.mono ?_
      rintro e W3 (⟨rfl, hJ3, hk3⟩ | ⟨rfl, hJx3⟩)
      · have HK3 := Lib.hid hk3
        clear hk3
        gi_wp2
        go_roundw
        case rel => exact ⟨k + 1, hlt, by have := HJJ.out; congr 1; omega, by rw [List.range_succ, List.map_append]; exact hJ3, Lib.hid (HK.out.trans HK3.out)⟩
        case measure => simp [intOf]
      · gi_wp2
        refine bodyPost_ret (results_none rfl _ _ _) rfl ?_
        exact ⟨⟨_, rfl⟩, .inr ⟨_, trivial, hJx3⟩⟩
    · obtain rfl : k = xs.length := by omega
      have hm : (xs.length : Int) - 1 - (xs.length : Int) = -1 := by omega
      rw [hm]
      gi_wp2
      go_end0
      exact ⟨⟨_, rfl⟩, .inl ⟨_, rfl, hJs⟩⟩

theorem back_stops {N : Nat} (n : Nat) (hn : 1 ≤ n) (Bs n₁ b₁ b₂ b : Nat) (c : Nat) (xs : List Int) (hxl : xs.length ≤ 65536) (el : Nat → ND N) (hel : ∀ k, k < xs.length → (el k).1.1 = xs.length - 1 - k ∧ ((el k).1.2 : Int) = nth xs (xs.length - 1 - k))
    (w : World) (hn₁ : n₁ ≤ w.heap.size) (A : Option Addr) (hBs : w.cell? ⟨Bs, 0, none⟩ = some (.slice A xs.length c)) (hB : Bs < n₁ ∧ Bs ≠ b₁ ∧ Bs ≠ b₂)
    (hA : 0 < xs.length → A = some ⟨b, 0, none⟩ ∧ (b < n₁ ∧ b ≠ b₁ ∧ b ≠ b₂) ∧ ∀ j, j < xs.length → w.cell? ⟨b, j, none⟩ = some (.int .i64 (nth xs j))) :
    SeqStopsK Fence.wide n Try.prog 101 #[.pointer (some ⟨Bs, 0, none⟩)] (ndEnc (N := N)) (Kq n₁ b₁ b₂) (fun ys => ys = (List.range xs.length).map el) (fun _ => True) xs.length w := fun l J Jx W hW _ _ hY h0 => by
  refine back1_in n hn l Bs n₁ b₁ b₂ b c xs hxl el hel J Jx hY W A ((hW.cell (p := ⟨Bs, 0, none⟩) (Nat.lt_of_lt_of_le hB.1 hn₁)).trans hBs) hB (fun h => ?_) h0
  obtain ⟨h1, h2, h3⟩ := hA h
  exact ⟨h1, h2, fun j hj => (hW.cell (p := ⟨b, j, none⟩) (Nat.lt_of_lt_of_le h2.1 hn₁)).trans (h3 j hj)⟩

theorem backward_any (A : Option Addr) (n c : Nat) (w : World) : Calls Try.prog 75 #[.slice A n c] w fun e w' => e = .returned (.func (.func 101) #[] #[.pointer (some ⟨w.heap.size, 0, none⟩)]) ∧ w' = w.alloc (.cells #[.slice A n c] 31) := by
  go_enter Try.func75, Try.ntmps75
  go_wp2
  go_ret
  exact ⟨rfl, rfl⟩
end Go.Proofs.Ytjifpjfinffamaa
