/- The walk over a log: what its closure hands to a loop. -/
import Derived.Test.YtomcobcmjocapaaGreatDoorK
import Derived.RangeFuncWrites
import Derived.RangeFuncNested
import Derived.RangeFuncBound
import Derived.RangeFuncCalls
import Derived.RangeFuncLeaves
import Derived.RangeFuncBox
import Derived.Shelf.Abstract
import Derived.OwnWalkIn
import Derived.TacticsInMore
import Derived.LoopNIn
import Derived.LoopIn
import Derived.Maps.OwnIn
namespace Go.Proofs.YtomcobcmjocapaaGreatDoor
open Go.RowKit Go.Shelf
attribute [local go_sem] Oper.semAt_some

/-- an entry with its place -/
abbrev EN (R : List (Int × Int)) := { x : Nat × (Int × Int) // R[x.1]? = some x.2 ∨ R.length = 0 }
def enEnc {R : List (Int × Int)} (x : EN R) : Array Value := #[.int .i64 (x.1.1 : Int), .agg #[.int .u64 x.1.2.1, .int .u64 x.1.2.2]]
/-- a round leaves what lay, but for two blocks -/
def Kq (n₁ b₁ b₂ : Nat) (W W' : World) : Prop := (∀ k, k < n₁ → k ≠ b₁ → k ≠ b₂ → W'.heap[k]? = W.heap[k]?) ∧ W.heap.size ≤ W'.heap.size
theorem Kq.trans {n₁ b₁ b₂ : Nat} {A B C : World} (h : Kq n₁ b₁ b₂ A B) (h' : Kq n₁ b₁ b₂ B C) : Kq n₁ b₁ b₂ A C := ⟨fun k hk h1 h2 => (h'.1 k hk h1 h2).trans (h.1 k hk h1 h2), Nat.le_trans h.2 h'.2⟩
set_option maxRecDepth 100000 in
set_option maxHeartbeats 2000000 in
theorem over1_in {R : List (Int × Int)} (n : Nat) (hn : 2 ≤ n) (l Bs cf Br n₁ b₁ b₂ b : Nat) (hRl : R.length ≤ 65536) (el : Nat → EN R) (hel : ∀ k, k < R.length → (el k).1.1 = k)
    (J Jx : List (EN R) → World → Prop) (W : World) (hn₁ : n₁ ≤ W.heap.size) (hJa : AbidesFrom W.heap.size J)
    (hY : ∀ pre x W1, J pre W1 → pre.length < R.length → YieldAt Fence.wide (n - 1) Tryz.prog l (enEnc x) W1 fun e W' =>
      (e = .returned (.bool true) ∧ J (pre ++ [x]) W' ∧ Kq n₁ b₁ b₂ W1 W') ∨ (e = .returned (.bool false) ∧ Jx (pre ++ [x]) W'))
    (he : ∀ args w, (callFunc cf args).run Tryz.prog w = .ok (.enter cf args) w) (A : Option Addr) (hBs : W.cell? ⟨Bs, 0, none⟩ = some (.func (.func cf) #[] #[.pointer (some ⟨Br, 0, none⟩)]))
    (hcl : Calls Tryz.prog cf #[.pointer (some ⟨Br, 0, none⟩)] W fun e W' => e = .returned (.slice A R.length R.length) ∧ ∃ k, W' = W.drewN k)
    (hA : 0 < R.length → A = some ⟨b, 0, none⟩ ∧ (b < n₁ ∧ b ≠ b₁ ∧ b ≠ b₂) ∧ ∀ j p, R[j]? = some p → W.cell? ⟨b, j * 2, none⟩ = some (.int .u64 p.1) ∧ W.cell? ⟨b, j * 2 + 1, none⟩ = some (.int .u64 p.2)) (h0 : J [] W) :
    CallsIn Fence.wide n Tryz.prog 74 #[.func (.yield l) #[] #[], .pointer (some ⟨Bs, 0, none⟩)] W fun e W' => (∃ v, e = .returned v) ∧
      ((∃ ys, ys = (List.range R.length).map el ∧ J ys W') ∨ (∃ pre, True ∧ Jx pre W')) := by
  have HA := Lib.hid hA
  have HEL := Lib.hid hel
  have HCL := Lib.hid hcl
  have HJ0 := Lib.hid (fun k => hJa [] W (W.drewN k) none h0 ⟨rfl, rfl, rfl, Nat.le_refl _, fun _ _ _ => rfl⟩ (fun r h => by cases h))
  have HJA := Lib.hid hJa
  have HY := Lib.hid hY
  clear hA hel hcl hJa hY h0
  refine callsIn_of_wp Tryz.func74 rfl trivial ?_ rfl
  simp only [Tryz.ntmps74, List.size_toArray, List.length_cons, List.length_nil, Nat.reduceAdd, Nat.reduceSub, Array.replicate_succ, Array.replicate_zero, List.push_toArray, List.append_toArray, List.nil_append, List.cons_append]
  gi_wp2
  refine ⟨trivial, fun _ => by omega, callsIn_wide.2 (HCL.out.mono ?_)⟩
  rintro e W0 ⟨rfl, kd, rfl⟩
  have HW0 : Hid (∀ a : Addr, (W.drewN kd).cell? a = W.cell? a) := fun _ => rfl
  have HJ1 := Lib.hid (HJ0.out kd)
  have hsz0 : (W.drewN kd).heap.size = W.heap.size := rfl
  have HJB : Hid (AbidesFrom (W.drewN kd).heap.size J) := HJA.out
  have HA1 : Hid (0 < R.length → A = some ⟨b, 0, none⟩ ∧ (b < n₁ ∧ b ≠ b₁ ∧ b ≠ b₂) ∧ ∀ j p, R[j]? = some p → (W.drewN kd).cell? ⟨b, j * 2, none⟩ = some (.int .u64 p.1) ∧ (W.drewN kd).cell? ⟨b, j * 2 + 1, none⟩ = some (.int .u64 p.2)) := HA.out
  replace hn₁ : n₁ ≤ (W.drewN kd).heap.size := hn₁
  clear HW0 HJ0 HJA HA HCL hsz0 hBs he
  generalize W.drewN kd = W2 at *
  gi_wp2
  gi_loopw [8] (fun i wr => ∃ k : Nat, k ≤ R.length ∧ i = .int .i64 k ∧ J ((List.range k).map el) wr ∧ Hid (Kq n₁ b₁ b₂ W2 wr)) (fun i _ => R.length - (intOf i).toNat)
  case atStart => exact ⟨0, Nat.zero_le _, by simp, HJ1.out, fun _ _ _ _ => rfl, Nat.le_refl _⟩
  case round =>
    obtain ⟨k, hk, rfl, hJs, HK⟩ := hrel
    by_cases hlt : k < R.length
    · obtain ⟨hA1, hb, hcs⟩ := HA1.out (by omega)
      subst hA1
      have hp := (el k).2.resolve_right (by omega)
      rw [HEL.out k hlt] at hp
      obtain ⟨p, hpe⟩ : ∃ p, p = (el k).1.2 := ⟨_, rfl⟩
      rw [← hpe] at hp
      obtain ⟨hc1, hc2⟩ := hcs k p hp
      replace hc1 : wr.cell? ⟨b, k * 2, none⟩ = some (.int .u64 p.1) := by
        rw [World.cell?_of_block (HK.out.1 b hb.1 hb.2.1 hb.2.2)]; exact hc1
      replace hc2 : wr.cell? ⟨b, k * 2 + 1, none⟩ = some (.int .u64 p.2) := by
        rw [World.cell?_of_block (HK.out.1 b hb.1 hb.2.1 hb.2.2)]; exact hc2
      have hja : J ((List.range k).map el) (wr.alloc (.cells #[.int .u64 p.1, .int .u64 p.2] 102)) := HJB.out _ _ _ none hJs (World.grownBy_alloc _ _ _) (fun r h => by cases h)
      have hy0 := HY.out ((List.range k).map el) (el k) (wr.alloc (.cells #[.int .u64 p.1, .int .u64 p.2] 102)) hja (by simpa using hlt)
      unfold enEnc at hy0
      rw [HEL.out k hlt, ← hpe] at hy0
      obtain ⟨fn, tmps, assign, body, hy, hR⟩ := hy0
      have i1 : (0 : Int) ≤ (k : Int) := by omega
      have i2 : (k : Int) < (R.length : Int) := by omega
      have HR := Lib.hid hR
      clear hcs hp hJs hpe hja hR
      gi_wp2
      refine ⟨fun _ => by omega, HR.out.mono ?_⟩
      rintro e W3 (⟨rfl, hJ3, hk3⟩ | ⟨rfl, hJx3⟩)
      · have HK3 : Hid (Kq n₁ b₁ b₂ W2 W3) := by
          refine ⟨fun q hq h1 h2 => ?_, ?_⟩
          · rw [hk3.1 q hq h1 h2, Below.heap_alloc _ _ _ (by have := HK.out.2; omega)]
            exact HK.out.1 q hq h1 h2
          · have h3 := hk3.2
            have h4 := HK.out.2
            simp at h3
            omega
        clear hk3 HR
        gi_wp2
        go_roundw
        case rel => exact ⟨k + 1, hlt, by go_num, by rw [List.range_succ, List.map_append]; exact hJ3, HK3⟩
        case measure => simp [intOf]; omega
      · clear HR
        gi_wp2
        refine bodyPost_ret (results_none rfl _ _ _) rfl ?_
        exact ⟨⟨_, rfl⟩, .inr ⟨_, trivial, hJx3⟩⟩
    · obtain rfl : k = R.length := by omega
      have hnl : ¬ (R.length : Int) < (R.length : Int) := by omega
      gi_wp2
      go_end0
      exact ⟨⟨_, rfl⟩, .inl hJs⟩
theorem over_stops {R : List (Int × Int)} (n : Nat) (hn : 2 ≤ n) (Bs cf Br n₁ b₁ b₂ b : Nat) (hRl : R.length ≤ 65536) (el : Nat → EN R) (hel : ∀ k, k < R.length → (el k).1.1 = k)
    (w : World) (hn₁ : n₁ ≤ w.heap.size) (he : ∀ args w, (callFunc cf args).run Tryz.prog w = .ok (.enter cf args) w) (A : Option Addr) (hBs : w.cell? ⟨Bs, 0, none⟩ = some (.func (.func cf) #[] #[.pointer (some ⟨Br, 0, none⟩)])) (hBl : Bs < w.heap.size)
    (hcl : ∀ W, Below w.heap.size w W → Calls Tryz.prog cf #[.pointer (some ⟨Br, 0, none⟩)] W fun e W' => e = .returned (.slice A R.length R.length) ∧ ∃ k, W' = W.drewN k)
    (hA : 0 < R.length → A = some ⟨b, 0, none⟩ ∧ (b < n₁ ∧ b ≠ b₁ ∧ b ≠ b₂) ∧ ∀ j p, R[j]? = some p → w.cell? ⟨b, j * 2, none⟩ = some (.int .u64 p.1) ∧ w.cell? ⟨b, j * 2 + 1, none⟩ = some (.int .u64 p.2)) :
    SeqStopsK Fence.wide n Tryz.prog 74 #[.pointer (some ⟨Bs, 0, none⟩)] (enEnc (R := R)) (Kq n₁ b₁ b₂) (fun ys => ys = (List.range R.length).map el) (fun _ => True) R.length w := fun l J Jx W hW hJ _ hY h0 => by
  refine over1_in n hn l Bs cf Br n₁ b₁ b₂ b hRl el hel J Jx W (Nat.le_trans hn₁ hW.size) hJ hY he A ((hW.cell (p := ⟨Bs, 0, none⟩) hBl).trans hBs) (hcl W hW) (fun h => ?_) h0
  obtain ⟨h1, h2, h3⟩ := hA h
  have hb : b < w.heap.size := Nat.lt_of_lt_of_le h2.1 hn₁
  exact ⟨h1, h2, fun j p hp => ⟨(hW.cell (p := ⟨b, j * 2, none⟩) hb).trans (h3 j p hp).1, (hW.cell (p := ⟨b, j * 2 + 1, none⟩) hb).trans (h3 j p hp).2⟩⟩
/-- the entries in order -/
theorem en_list (R : List (Int × Int)) : ∃ el : Nat → EN R, ∀ k, k < R.length → (el k).1.1 = k := by
  by_cases h0 : R.length = 0
  · exact ⟨fun _ => ⟨(0, (0, 0)), .inr h0⟩, fun k hk => by omega⟩
  · refine ⟨fun k => if h : k < R.length then ⟨(k, R[k]), .inl (by simp [h])⟩ else ⟨(0, R[0]), .inl (by simp)⟩, fun k hk => by simp [hk]⟩
end Go.Proofs.YtomcobcmjocapaaGreatDoor
