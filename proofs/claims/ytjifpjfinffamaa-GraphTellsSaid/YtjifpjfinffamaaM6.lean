/- Plain math: what the programs answer at the law's own examples. -/
import Derived.Test.YtjifpjfinffamaaK1
import Derived.Test.YtjifpjfinffamaaM5
import Derived.Test.YtjifpjfinffamaaM2
namespace Go.Proofs.Ytjifpjfinffamaa
open Go.RowKit

def rdyB (N : Nat) (l : List E) (xs : List Int) (v : Int) : Bool := decide (0 ≤ v) && decide (v < N) && !decide (v ∈ xs) && decide (cnt l (DX l xs) v = 0)
theorem rdyB_iff {N : Nat} {l : List E} {xs : List Int} {v : Int} : rdyB N l xs v = true ↔ rdy N l xs v := by
  simp [rdyB, rdy, and_assoc]
def nextB (N : Nat) (l : List E) (xs : List Int) (v : Int) : Bool := rdyB N l xs v && (List.range N).all fun u => !rdyB N l xs (u : Int) || decide (v ≤ (u : Int))
theorem Gr.next {N : Nat} {l : List E} {xs : List Int} {v : Int} (h : Gr N l xs) (hb : nextB N l xs v = true) : Gr N l (xs ++ [v]) := by
  simp only [nextB, Bool.and_eq_true, List.all_eq_true, List.mem_range, Bool.or_eq_true, Bool.not_eq_true', decide_eq_true_eq] at hb
  refine h.snoc (rdyB_iff.1 hb.1) fun u hu => ?_
  obtain ⟨u, rfl⟩ := Int.eq_ofNat_of_zero_le hu.1
  have h1 := hu.2.1
  rcases hb.2 u (by omega) with h2 | h2
  · rw [rdyB_iff.2 hu] at h2; cases h2
  · exact h2
theorem Full.of {N : Nat} {l : List E} {xs : List Int} (h : Gr N l xs) (hb : (List.range N).all (fun u => !rdyB N l xs (u : Int)) = true) : Full N l xs := by
  refine ⟨h, fun v hv => ?_⟩
  obtain ⟨u, rfl⟩ := Int.eq_ofNat_of_zero_le hv.1
  have h1 := hv.2.1
  have := List.all_eq_true.1 hb u (List.mem_range.2 (by omega))
  rw [rdyB_iff.2 hv] at this
  cases this

def lA : List E := [⟨2, 0, 0⟩, ⟨3, 0, 0⟩, ⟨0, 1, 0⟩]
def lB : List E := [⟨0, 1, 0⟩, ⟨1, 2, 0⟩, ⟨2, 0, 0⟩, ⟨1, 0, 0⟩]
def lC : List E := [⟨0, 1, 0⟩, ⟨1, 2, 0⟩, ⟨0, 2, 0⟩]
def lD : List E := [⟨1, 0, 0⟩]
theorem order_A : OrderS 4 lA [2, 3, 0, 1] 0 := by
  refine .inr ⟨by decide, [2, 3, 0, 1], ?_, .inr ⟨by decide, rfl, rfl⟩⟩
  have h := ((((Gr.nil (N := 4) (l := lA)).next (v := 2) (by decide)).next (v := 3) (by decide)).next (v := 0) (by decide)).next (v := 1) (by decide)
  exact Full.of h (by decide)
theorem order_C : OrderS 3 lC [0, 1, 2] 0 := by
  refine .inr ⟨by decide, [0, 1, 2], ?_, .inr ⟨by decide, rfl, rfl⟩⟩
  have h := (((Gr.nil (N := 3) (l := lC)).next (v := 0) (by decide)).next (v := 1) (by decide)).next (v := 2) (by decide)
  exact Full.of h (by decide)
theorem need_C : (([0, 1, 2].reverse.map Int.toNat).foldl (stp lC) st0).nd = [1, 0] := by decide
theorem keeps_D : KeepsS 2 [1, 0] lD true := by
  refine .inr (.inr ⟨by decide, by decide, .inr ⟨?_, by decide⟩⟩)
  intro j hj
  have : j = 0 ∨ j = 1 := by
    have : j < 2 := hj
    omega
  rcases this with rfl | rfl <;> decide

theorem lB_shut {d : List Int} (h : (0 ≤ at_ d 0 → 0 ≤ at_ d 1 ∧ at_ d 1 ≤ at_ d 0 + 1) ∧ (0 ≤ at_ d 1 → 0 ≤ at_ d 2 ∧ at_ d 2 ≤ at_ d 1 + 1) ∧ (0 ≤ at_ d 2 → 0 ≤ at_ d 0 ∧ at_ d 0 ≤ at_ d 2 + 1) ∧ (0 ≤ at_ d 1 → 0 ≤ at_ d 0 ∧ at_ d 0 ≤ at_ d 1 + 1)) :
    ∀ e ∈ lB, 0 ≤ at_ d e.f → 0 ≤ at_ d e.t ∧ at_ d e.t ≤ at_ d e.f + 1 := by
  intro e he
  simp only [lB, List.mem_cons, List.not_mem_nil, or_false] at he
  rcases he with rfl | rfl | rfl | rfl
  · exact h.1
  · exact h.2.1
  · exact h.2.2.1
  · exact h.2.2.2
theorem three {p : Int → Prop} (h0 : p 0) (h1 : p 1) (h2 : p 2) : ∀ v, 0 ≤ v → v < 3 → p v := by
  intro v hv hv3
  rcases (show v = 0 ∨ v = 1 ∨ v = 2 by omega) with rfl | rfl | rfl <;> assumption
theorem w01 : Wk lB 1 0 1 := ⟨⟨0, 1, 0⟩, by simp [lB], rfl, rfl⟩
theorem w12 : Wk lB 1 1 2 := ⟨⟨1, 2, 0⟩, by simp [lB], rfl, rfl⟩
theorem w20 : Wk lB 1 2 0 := ⟨⟨2, 0, 0⟩, by simp [lB], rfl, rfl⟩
theorem w10 : Wk lB 1 1 0 := ⟨⟨1, 0, 0⟩, by simp [lB], rfl, rfl⟩
theorem w02 : Wk lB 2 0 2 := ⟨⟨0, 1, 0⟩, by simp [lB], rfl, w12⟩
theorem w21 : Wk lB 2 2 1 := ⟨⟨2, 0, 0⟩, by simp [lB], rfl, w01⟩
theorem dist0 : IsDist 3 lB 0 [0, 1, 2] := ⟨rfl, three (p := fun v => at_ [0, 1, 2] v = -1 ∨ (0 ≤ at_ [0, 1, 2] v ∧ Wk lB (at_ [0, 1, 2] v).toNat 0 v)) (.inr ⟨by decide, rfl⟩) (.inr ⟨by decide, w01⟩) (.inr ⟨by decide, w02⟩), rfl, lB_shut (by decide)⟩
theorem dist1 : IsDist 3 lB 1 [1, 0, 1] := ⟨rfl, three (p := fun v => at_ [1, 0, 1] v = -1 ∨ (0 ≤ at_ [1, 0, 1] v ∧ Wk lB (at_ [1, 0, 1] v).toNat 1 v)) (.inr ⟨by decide, w10⟩) (.inr ⟨by decide, rfl⟩) (.inr ⟨by decide, w12⟩), rfl, lB_shut (by decide)⟩
theorem dist2 : IsDist 3 lB 2 [1, 2, 0] := ⟨rfl, three (p := fun v => at_ [1, 2, 0] v = -1 ∨ (0 ≤ at_ [1, 2, 0] v ∧ Wk lB (at_ [1, 2, 0] v).toNat 2 v)) (.inr ⟨by decide, w20⟩) (.inr ⟨by decide, w21⟩) (.inr ⟨by decide, rfl⟩), rfl, lB_shut (by decide)⟩
theorem dB10 : dst lB 1 0 = 1 := (dst_eq dist1 (v := 0) (by decide)).symm
theorem dB21 : dst lB 2 1 = 2 := (dst_eq dist2 (v := 1) (by decide)).symm
theorem dB02 : dst lB 0 2 = 2 := (dst_eq dist0 (v := 2) (by decide)).symm
theorem dB01 : dst lB 0 1 = 1 := (dst_eq dist0 (v := 1) (by decide)).symm
theorem dB00 : dst lB 0 0 = 0 := (dst_eq dist0 (v := 0) (by decide)).symm
theorem dB20 : dst lB 2 0 = 1 := (dst_eq dist2 (v := 0) (by decide)).symm
theorem g0 : gap lB 0 = 1 := dB10
theorem g1 : gap lB 1 = 2 := dB21
theorem g2 : gap lB 2 = 2 := dB02
theorem g3 : gap lB 3 = 1 := dB01
theorem pick_B : pick (gap lB) lB.length = some (0, 2) := by
  show pick (gap lB) 4 = some (0, 2)
  simp [pick, g0, g1, g2, g3]
theorem step_B : step lB 0 0 1 = 3 := by
  have h := step_spec (l := lB) (v := 1) (s := 0) (k := 0) (by rw [dB10]; rfl)
  have h1 : step lB 0 0 1 < 4 := h.1
  have h2 := h.2.1
  have h3 := h.2.2.1
  rcases (show step lB 0 0 1 = 0 ∨ step lB 0 0 1 = 1 ∨ step lB 0 0 1 = 2 ∨ step lB 0 0 1 = 3 by omega) with e | e | e | e
  · rw [e] at h2; exact absurd h2 (by decide)
  · rw [e] at h3
    have : dst lB 2 0 = ((0 : Nat) : Int) := h3
    rw [dB20] at this
    omega
  · rw [e] at h2; exact absurd h2 (by decide)
  · exact e
theorem round_B : RoundS 3 lB [0, 3] true 0 := by
  refine .inr ⟨by decide, rfl, .inr ⟨0, 2, pick_B, ?_, rfl⟩⟩
  show [0, 3] = ((0 : Nat) : Int) :: tail lB 0 1 1
  simp [tail, step_B]
end Go.Proofs.Ytjifpjfinffamaa
