/- Walks: lists of entries, lists of blocks that are the same; Over, Before, over. -/
import Derived.Test.YtjifpjfinffamaaY1
import Derived.BigRegion
import Derived.Handy
namespace Go.Proofs.Ytjifpjfinffamaa
open Go.RowKit

set_option maxHeartbeats 800000 in
theorem sameEntries_any (u v : Value) (lo B : Nat) (l : List (Int × Int)) (w : World) (hx : RN w lo B u l) (hy : RN w lo B v l) (hl : l.length ≤ 1099511627776) :
    Calls Try.prog 66 #[u, v] w fun e w' => e = .returned (.bool true) ∧ ∃ m, w' = w.drewN m := by
  obtain ⟨A, c, rfl, hx⟩ := hx
  obtain ⟨A2, c2, rfl, hy⟩ := hy
  have hne : ((l.length : Int) != l.length) = false := by simp
  have HL := Lib.hid hl
  clear hl
  go_enter Try.func66, Try.ntmps66
  go_wp2
  go_loopw [5] (fun i wr => ∃ k : Nat, k ≤ l.length ∧ i = .int .i64 k ∧ ∃ m, wr = w.drewN m) (fun i _ => l.length - (intOf i).toNat)
  case atStart => exact ⟨0, Nat.zero_le _, rfl, 0, rfl⟩
  case round =>
    obtain ⟨k, hk, rfl, m, rfl⟩ := hrel
    have hl := HL.out
    by_cases hlt : k < l.length
    · obtain ⟨g, rfl, _, hg, hc⟩ := hx (by omega)
      obtain ⟨g2, rfl, _, hg2, hc2⟩ := hy (by omega)
      obtain ⟨a0, a1, a2⟩ := hc k hlt
      obtain ⟨b0, b1, b2⟩ := hc2 k hlt
      generalize l[k] = p at *
      obtain ⟨x, y⟩ := p
      simp only at a0 a1 b0 b1
      have i1 : (0 : Int) ≤ (k : Int) := by omega
      have i2 : (k : Int) < (l.length : Int) := by omega
      clear hx hy hne hc hc2
      go_wp2
      go_quiet (fail)
      go_wp2
      go_roundw
      case rel => exact ⟨k + 1, by omega, by go_num, _, rfl⟩
      case measure => simp [intOf]; omega
    · go_wp2
      go_ret
      exact ⟨rfl, m, rfl⟩

def OverB (b : Bl) : Bool := decide (1 ≤ b.kind) && decide (b.kind ≤ 3)
theorem over15_any (b : Bl) (r t : Value) (w : World) : Calls Try.prog 64 #[blV b r t] w fun e w' => e = .returned (.bool (OverB b)) ∧ Below w.heap.size w w' := by
  obtain ⟨th, k, f, l, nm, wr, er, rd, wt⟩ := b
  have hor : k = 1 ∨ k = 2 ∨ k = 3 ∨ (k == 1) = false ∧ (k == 2) = false ∧ (k == 3) = false ∧ OverB ⟨th, k, f, l, nm, wr, er, rd, wt⟩ = false := by
    by_cases h1 : k = 1
    · exact .inl h1
    · by_cases h2 : k = 2
      · exact .inr (.inl h2)
      · by_cases h3 : k = 3
        · exact .inr (.inr (.inl h3))
        · refine .inr (.inr (.inr ⟨by simpa using h1, by simpa using h2, by simpa using h3, ?_⟩))
          unfold OverB
          by_cases q : 1 ≤ k
          · have : ¬ k ≤ 3 := by omega
            simp [this]
          · simp [q]
  rcases hor with rfl | rfl | rfl | ⟨k1, k2, k3, hf⟩
  case inr.inr.inr =>
    rw [hf]
    clear hf
    go_enter Try.func64, Try.ntmps64
    go_wp2
    go_ret
    refine ⟨rfl, ?_⟩
    go_grown
  all_goals
    go_enter Try.func64, Try.ntmps64
    go_wp2
    go_ret
    refine ⟨rfl, ?_⟩
    go_grown
theorem over_any (b : Bl) (r t : Value) (w : World) : Calls Try.prog 92 #[blV b r t] w fun e w' => e = .returned (.bool (OverB b)) ∧ Below w.heap.size w w' := by
  obtain ⟨th, k, f, l, nm, wr, er, rd, wt⟩ := b
  have hor : (1 ≤ k ∧ k ≤ 3) ∧ OverB ⟨th, k, f, l, nm, wr, er, rd, wt⟩ = true ∨ (1 ≤ k ∧ ¬ k ≤ 3) ∧ OverB ⟨th, k, f, l, nm, wr, er, rd, wt⟩ = false ∨ ¬ 1 ≤ k ∧ OverB ⟨th, k, f, l, nm, wr, er, rd, wt⟩ = false := by
    unfold OverB
    by_cases h1 : 1 ≤ k
    · by_cases h2 : k ≤ 3
      · exact .inl ⟨⟨h1, h2⟩, by simp [h1, h2]⟩
      · exact .inr (.inl ⟨⟨h1, h2⟩, by simp [h2]⟩)
    · exact .inr (.inr ⟨h1, by simp [h1]⟩)
  rcases hor with ⟨⟨h1, h2⟩, hf⟩ | ⟨⟨h1, h2⟩, hf⟩ | ⟨h1, hf⟩
  all_goals
    rw [hf]
    clear hf
    go_enter Try.func92, Try.ntmps92
    go_wp2
    go_ret
    refine ⟨rfl, ?_⟩
    go_grown

/-- the first block stands ahead of the second in the order -/
def BefB (a : Bl) (x : Int) (b : Bl) (y : Int) : Bool := if a.num ≠ b.num then decide (a.num < b.num) else if a.wr ≠ b.wr then a.wr else decide (x < y)
theorem before_any (a b : Bl) (x y : Int) (r t r' t' : Value) (w : World) : Calls Try.prog 65 #[blV a r t, .int .i64 x, blV b r' t', .int .i64 y] w fun e w' => e = .returned (.bool (BefB a x b y)) ∧ Below w.heap.size w w' := by
  obtain ⟨th, k, f, l, nm, wr, er, rd, wt⟩ := a
  obtain ⟨th', k', f', l', nm', wr', er', rd', wt'⟩ := b
  by_cases h1 : nm = nm'
  · have hf : BefB ⟨th, k, f, l, nm, wr, er, rd, wt⟩ x ⟨th', k', f', l', nm', wr', er', rd', wt'⟩ y = if wr ≠ wr' then wr else decide (x < y) := by
      unfold BefB
      rw [if_neg (by simpa using h1)]
    rw [hf]
    have e1 : (nm != nm') = false := by simpa using h1
    clear h1 hf
    cases wr <;> cases wr' <;> simp only [ne_eq, reduceCtorEq, not_true_eq_false, not_false_eq_true, if_true, if_false]
    all_goals
      go_enter Try.func65, Try.ntmps65
      go_wp2
      go_ret
      refine ⟨rfl, ?_⟩
      go_grown
  · have hf : BefB ⟨th, k, f, l, nm, wr, er, rd, wt⟩ x ⟨th', k', f', l', nm', wr', er', rd', wt'⟩ y = decide (nm < nm') := by
      unfold BefB
      rw [if_pos h1]
    rw [hf]
    have e1 : (nm != nm') = true := by simpa using h1
    clear h1 hf
    go_enter Try.func65, Try.ntmps65
    go_wp2
    go_ret
    refine ⟨rfl, ?_⟩
    go_grown
end Go.Proofs.Ytjifpjfinffamaa
