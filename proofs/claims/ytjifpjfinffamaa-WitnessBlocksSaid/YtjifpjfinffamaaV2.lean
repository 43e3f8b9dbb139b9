/- Walks: the document's events: pair, single, Formed, turn. -/
import Derived.Test.YtjifpjfinffamaaV1
import Derived.WalkMore
import Derived.BigQuiet
namespace Go.Proofs.Ytjifpjfinffamaa
open Go.RowKit

def pairB (k : Int) : Bool := k == 2 || (k == 3 || (k == 10 || k == 11))
def singleB (k : Int) : Bool := k == 1 || (k == 4 || k == 6)
theorem pair_any (k : Int) (w : World) : Calls Try.prog 134 #[.int .i64 k] w fun e w' => e = .returned (.bool (pairB k)) ∧ w' = w := by
  unfold pairB
  go_enter Try.func134, Try.ntmps134
  cases h1 : k == 2 <;> cases h2 : k == 3 <;> cases h3 : k == 10 <;> cases h4 : k == 11 <;> (go_wp2; go_ret; exact ⟨rfl, rfl⟩)
theorem single_any (k : Int) (w : World) : Calls Try.prog 135 #[.int .i64 k] w fun e w' => e = .returned (.bool (singleB k)) ∧ w' = w := by
  unfold singleB
  go_enter Try.func135, Try.ntmps135
  cases h1 : k == 1 <;> cases h2 : k == 4 <;> cases h3 : k == 6 <;> (go_wp2; go_ret; exact ⟨rfl, rfl⟩)

theorem kinds {k : Int} (h : 1 ≤ k ∧ k ≤ 12) : k = 1 ∨ k = 2 ∨ k = 3 ∨ k = 4 ∨ k = 5 ∨ k = 6 ∨ k = 7 ∨ k = 8 ∨ k = 9 ∨ k = 10 ∨ k = 11 ∨ k = 12 := by omega

set_option linter.unusedSimpArgs false in
set_option maxRecDepth 100000 in
set_option maxHeartbeats 3200000 in
theorem turn_any (how : Int) (e : Ev) (w : World) : Calls Try.prog 112 #[.int .i64 how, evV e] w fun e' w' => e' = .returned (.int .i64 (nextI how e.kind e.err)) ∧ Below w.heap.size w w' := by
  obtain ⟨th, k, a, x, o, er⟩ := e
  have hb := (Below.refl w.heap.size w).alloc (Nat.le_refl _) (.cells #[.int .i64 th, .int .i64 k, .int .u64 a, .int .u64 x, .bool o, .int .i64 er] 97)
  show Calls Try.prog 112 #[.int .i64 how, .agg #[.int .i64 th, .int .i64 k, .int .u64 a, .int .u64 x, .bool o, .int .i64 er]] w fun e' w' => e' = .returned (.int .i64 (nextI how k er)) ∧ Below w.heap.size w w'
  go_enter Try.func112, Try.ntmps112
  go_wp2
  all_goals
    go_ret
    refine ⟨?_, hb⟩
    simp_all [nextI]

set_option linter.unusedSimpArgs false in
set_option maxRecDepth 100000 in
set_option maxHeartbeats 3200000 in
theorem formed_any (e : Ev) (w : World) (he : e.Wd) : Calls Try.prog 111 #[evV e] w fun e' w' => e' = .returned (.bool (decide (Fm e))) ∧ Below w.heap.size w w' := by
  obtain ⟨th, k, a, x, o, er⟩ := e
  have hb := (Below.refl w.heap.size w).alloc (Nat.le_refl _) (.cells #[.int .i64 th, .int .i64 k, .int .u64 a, .int .u64 x, .bool o, .int .i64 er] 97)
  by_cases h1 : (0 ≤ th ∧ th < 8) ∧ (1 ≤ k ∧ k ≤ 12)
  · obtain ⟨⟨h1, h2⟩, h3⟩ := h1
    have e1 : decide (Fm ⟨th, k, a, x, o, er⟩) = decide (Rest ⟨th, k, a, x, o, er⟩) := by simp [Fm, h1, h2, h3.1, h3.2]
    rw [e1]
    have i1 : (1 : Int) ≤ k := h3.1
    have i2 : k ≤ 12 := h3.2
    have hm : x.tmod 2 = x % 2 := Int.tmod_eq_emod_of_nonneg he.2.1
    have HM := Lib.hid hm
    clear hm
    show Calls Try.prog 111 #[.agg #[.int .i64 th, .int .i64 k, .int .u64 a, .int .u64 x, .bool o, .int .i64 er]] w fun e' w' => e' = .returned (.bool (decide (Rest ⟨th, k, a, x, o, er⟩))) ∧ Below w.heap.size w w'
    go_enter Try.func111, Try.ntmps111
    rcases kinds h3 with rfl | rfl | rfl | rfl | rfl | rfl | rfl | rfl | rfl | rfl | rfl | rfl
    all_goals
      clear e1 i1 i2 h3
      go_wp2_with (first
        | (go_at_call 134; refine (pair_any _ _).mono ?_; rintro e wx ⟨rfl, rfl⟩; try simp only [pairB, singleB, Int.reduceBEq, Bool.false_or, Bool.or_false, Bool.true_or, Bool.or_true])
        | (go_at_call 135; refine (single_any _ _).mono ?_; rintro e wx ⟨rfl, rfl⟩; try simp only [pairB, singleB, Int.reduceBEq, Bool.false_or, Bool.or_false, Bool.true_or, Bool.or_true]))
      all_goals
        go_ret
        refine ⟨?_, (Below.refl _ _).alloc (Nat.le_refl _) _⟩
        have hm := HM.out
        simp_all [Rest, PairK, SingleK]
        try rfl
        try (rw [Bool.eq_iff_iff]; simp; omega)
  · have e1 : decide (Fm ⟨th, k, a, x, o, er⟩) = false := by
      refine decide_eq_false ?_
      rintro ⟨h2, h3, _⟩
      exact h1 ⟨h2, h3⟩
    rw [e1]
    go_enter Try.func111, Try.ntmps111
    by_cases a1 : th < 0
    · go_wp2
      go_ret
      exact ⟨rfl, hb⟩
    · by_cases a2 : 8 ≤ th
      · go_wp2
        go_ret
        exact ⟨rfl, hb⟩
      · by_cases a3 : k < 1
        · go_wp2
          go_ret
          exact ⟨rfl, hb⟩
        · have a4 : 12 < k := by omega
          go_wp2
          go_ret
          exact ⟨rfl, hb⟩
end Go.Proofs.Ytjifpjfinffamaa
