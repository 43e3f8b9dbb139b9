/- Walks: the heap's own methods (Len, Less, Swap, Push, Pop of graph.ready). -/
import Derived.Test.YtjifpjfinffamaaLib4
import Derived.Test.YtjifpjfinffamaaM3
import Derived.Deep.RegionLaw
namespace Go.Proofs.Ytjifpjfinffamaa
open Go.RowKit

/-- the variable in block p holds a list of its own, which reads xs -/
def HS (w : World) (p : Nat) (v : Value) (xs : List Int) : Prop := w.heap[p]? = some (.cells #[v] 124 (0, 0)) ∧ w.ownsRow (p + 1) 3 1 v xs.length (ints xs)
/-- nothing moves but the variable in block p and the row that it holds; that row stays where it is or is new -/
structure Moves (w w' : World) (p : Nat) (v v' : Value) : Prop where
  os : w'.os = w.os
  tape : w'.tape = w.tape
  output : w'.output = w.output
  size : w.heap.size ≤ w'.heap.size
  block : ∀ k, k < w.heap.size → k ≠ p → v.ownBlock ≠ some k → w'.heap[k]? = w.heap[k]?
  row : v'.ownBlock = v.ownBlock ∨ ∀ k, v'.ownBlock = some k → w.heap.size ≤ k
theorem Moves.refl (w : World) (p : Nat) (v : Value) : Moves w w p v v := ⟨rfl, rfl, rfl, Nat.le_refl _, fun _ _ _ _ => rfl, .inl rfl⟩
theorem Moves.drew (w : World) (p : Nat) (v : Value) : Moves w w.drew p v v := ⟨rfl, rfl, rfl, Nat.le_refl _, fun _ _ _ _ => rfl, .inl rfl⟩
theorem Moves.trans {w1 w2 w3 : World} {p : Nat} {v1 v2 v3 : Value} (h : Moves w1 w2 p v1 v2) (h' : Moves w2 w3 p v2 v3) : Moves w1 w3 p v1 v3 := by
  refine ⟨h'.os.trans h.os, h'.tape.trans h.tape, h'.output.trans h.output, Nat.le_trans h.size h'.size, fun k hk hp hv => ?_, ?_⟩
  · refine (h'.block k (Nat.lt_of_lt_of_le hk h.size) hp ?_).trans (h.block k hk hp hv)
    rcases h.row with h1 | h1
    · rw [h1]; exact hv
    · intro hc
      have := h1 k hc
      omega
  · rcases h'.row with h1 | h1
    · rcases h.row with h2 | h2
      · exact .inl (h1.trans h2)
      · exact .inr fun k hk => h2 k (h1 ▸ hk)
    · exact .inr fun k hk => Nat.le_trans h.size (h1 k hk)
theorem HS.drew {w : World} {p : Nat} {v : Value} {xs : List Int} (h : HS w p v xs) : HS w.drew p v xs := ⟨h.1, h.2⟩
theorem HS.cell {w : World} {p : Nat} {v : Value} {xs : List Int} (h : HS w p v xs) : w.cell? ⟨p, 0, none⟩ = some v := by rw [cell_of_row w p 0 _ 124 (0, 0) h.1]; rfl
theorem HS.shape {w : World} {p : Nat} {v : Value} {xs : List Int} (h : HS w p v xs) : ∃ A c, v = .slice A xs.length c := own_shape h.2
/-- a list that is not empty: its cells -/
theorem HS.open_ {w : World} {p : Nat} {v : Value} {xs : List Int} (h : HS w p v xs) (hn : 0 < xs.length) : ∃ g c, v = .slice (some ⟨g, 0, none⟩) xs.length c ∧ p < g ∧ (∀ i, i < xs.length → w.cell? ⟨g, i, none⟩ = some (.int .i64 (nth xs i))) ∧ (∀ i, w.frozen? ⟨g, i, none⟩ = false) := by
  obtain ⟨g, c, hv, hp, hg⟩ := h.2.form hn
  subst hv
  refine ⟨g, c, rfl, by omega, fun i hi => ?_, fun i => h.2.frozenAt i⟩
  rw [h.2.cellAt i (by omega)]
  simp [ints, nth_some hi]

theorem HS.open2 {w : World} {p L c : Nat} {A : Option Addr} {xs : List Int} (h : HS w p (.slice A L c) xs) (hn : 0 < xs.length) : ∃ g, A = some ⟨g, 0, none⟩ ∧ p < g ∧ (∀ i, i < xs.length → w.cell? ⟨g, i, none⟩ = some (.int .i64 (nth xs i))) ∧ (∀ i, w.frozen? ⟨g, i, none⟩ = false) := by
  obtain ⟨g, c', hv, h1, h2, h3⟩ := h.open_ hn
  injection hv with hv
  exact ⟨g, hv, h1, h2, h3⟩
theorem HS.len {w : World} {p L c : Nat} {A : Option Addr} {xs : List Int} (h : HS w p (.slice A L c) xs) : xs.length = L := by
  obtain ⟨A', c', hv⟩ := h.shape
  injection hv with _ hv
  exact hv.symm
theorem meth_len0 (b o : Nat) (w : World) : (Go.method (356) 126 (.pointer (some ⟨b, o, none⟩)) "Len").run Try.prog w = ((loadVar 124 ⟨b, o, none⟩ >>= fun v => pure (82, v)) : Sem (FuncId × Value)).run Try.prog w := by kernel_rfl
theorem meth_less0 (b o : Nat) (w : World) : (Go.method (356) 126 (.pointer (some ⟨b, o, none⟩)) "Less").run Try.prog w = ((loadVar 124 ⟨b, o, none⟩ >>= fun v => pure (185, v)) : Sem (FuncId × Value)).run Try.prog w := by kernel_rfl
theorem meth_swap0 (b o : Nat) (w : World) : (Go.method (356) 126 (.pointer (some ⟨b, o, none⟩)) "Swap").run Try.prog w = ((loadVar 124 ⟨b, o, none⟩ >>= fun v => pure (186, v)) : Sem (FuncId × Value)).run Try.prog w := by kernel_rfl

theorem meth_len (b o : Nat) (w : World) (A : Option Addr) (n c : Nat) (h : w.cell? ⟨b, o, none⟩ = some (.slice A n c)) : (Go.method 356 126 (.pointer (some ⟨b, o, none⟩)) "Len").run Try.prog w = .ok (82, .slice A n c) w := by
  rw [meth_len0]
  go_simp
theorem meth_less (b o : Nat) (w : World) (A : Option Addr) (n c : Nat) (h : w.cell? ⟨b, o, none⟩ = some (.slice A n c)) : (Go.method 356 126 (.pointer (some ⟨b, o, none⟩)) "Less").run Try.prog w = .ok (185, .slice A n c) w := by
  rw [meth_less0]
  go_simp
theorem meth_swap (b o : Nat) (w : World) (A : Option Addr) (n c : Nat) (h : w.cell? ⟨b, o, none⟩ = some (.slice A n c)) : (Go.method 356 126 (.pointer (some ⟨b, o, none⟩)) "Swap").run Try.prog w = .ok (186, .slice A n c) w := by
  rw [meth_swap0]
  go_simp
theorem len_any (A : Option Addr) (n c : Nat) (w : World) : Calls Try.prog 82 #[.slice A n c] w fun e w' => e = .returned (.int .i64 n) ∧ w' = w := by
  go_enter Try.func82, Try.ntmps82
  go_wp2
  go_ret
  exact ⟨rfl, rfl⟩
set_option linter.unusedSimpArgs false in
theorem less_any (g n c i j : Nat) (x y : Int) (w : World) (hi : i < n) (hj : j < n) (h1 : w.cell? ⟨g, i, none⟩ = some (.int .i64 x)) (h2 : w.cell? ⟨g, j, none⟩ = some (.int .i64 y)) :
    Calls Try.prog 185 #[.slice (some ⟨g, 0, none⟩) n c, .int .i64 i, .int .i64 j] w fun e w' => e = .returned (.bool (decide (x < y))) ∧ w' = w.drew := by
  have i1 : (0 : Int) ≤ (i : Int) := by omega
  have i2 : (i : Int) < (n : Int) := by omega
  have i3 : (0 : Int) ≤ (j : Int) := by omega
  have i4 : (j : Int) < (n : Int) := by omega
  go_enter Try.func185, Try.ntmps185
  go_wp2
  go_region
  all_goals
    go_wp2
    go_ret
    exact ⟨rfl, rfl⟩
set_option linter.unusedSimpArgs false in
theorem swap_any (g n c i j : Nat) (x y : Int) (w : World) (hi : i < n) (hj : j < n) (h1 : w.cell? ⟨g, i, none⟩ = some (.int .i64 x)) (h2 : w.cell? ⟨g, j, none⟩ = some (.int .i64 y))
    (h3 : w.frozen? ⟨g, i, none⟩ = false) (h4 : w.frozen? ⟨g, j, none⟩ = false) :
    Calls Try.prog 186 #[.slice (some ⟨g, 0, none⟩) n c, .int .i64 i, .int .i64 j] w fun e w' => e = .returned (.tuple #[]) ∧ (w' = ((w.setCell ⟨g, i, none⟩ (.int .i64 y)).setCell ⟨g, j, none⟩ (.int .i64 x)).drew ∨ w' = ((w.setCell ⟨g, j, none⟩ (.int .i64 x)).setCell ⟨g, i, none⟩ (.int .i64 y)).drew) := by
  have i1 : (0 : Int) ≤ (i : Int) := by omega
  have i2 : (i : Int) < (n : Int) := by omega
  have i3 : (0 : Int) ≤ (j : Int) := by omega
  have i4 : (j : Int) < (n : Int) := by omega
  by_cases hij : i = j
  · subst hij
    obtain rfl : x = y := by
      have := h1.symm.trans h2
      simpa using this
    go_enter Try.func186, Try.ntmps186
    go_wp2
    go_region
    all_goals
      go_wp2
      go_end0
      exact ⟨rfl, by first | exact .inl rfl | exact .inr rfl⟩
  · have hji : ¬ j = i := fun e => hij e.symm
    go_enter Try.func186, Try.ntmps186
    go_wp2
    go_region
    all_goals
      go_wp2
      go_end0
      exact ⟨rfl, by first | exact .inl rfl | exact .inr rfl⟩

/-- two are exchanged: what the list reads then -/
theorem HS.swap {w : World} {p g c : Nat} {xs : List Int} (h : HS w p (.slice (some ⟨g, 0, none⟩) xs.length c) xs) (i j : Nat) :
    HS ((w.setCell ⟨g, i, none⟩ (.int .i64 (nth xs j))).setCell ⟨g, j, none⟩ (.int .i64 (nth xs i))).drew p (.slice (some ⟨g, 0, none⟩) xs.length c) (swp xs i j) ∧ Moves w ((w.setCell ⟨g, i, none⟩ (.int .i64 (nth xs j))).setCell ⟨g, j, none⟩ (.int .i64 (nth xs i))).drew p (.slice (some ⟨g, 0, none⟩) xs.length c) (.slice (some ⟨g, 0, none⟩) xs.length c) := by
  have hpg : p ≠ g := by have := (h.2.lt g rfl).1; omega
  obtain ⟨h1, g1⟩ := h.2.stored i (.int .i64 (nth xs j))
  obtain ⟨h2, g2⟩ := h1.stored j (.int .i64 (nth xs i))
  refine ⟨⟨?_, ?_⟩, ⟨g2.os.trans g1.os, g2.tape.trans g1.tape, g2.output.trans g1.output, Nat.le_trans g1.size g2.size, fun k hk hp hv => ?_, .inl rfl⟩⟩
  · have hp := (Array.getElem?_eq_some_iff.1 h.1).1
    have := (g2.block p (Nat.lt_of_lt_of_le hp g1.size) (by simp [hpg])).trans (g1.block p hp (by simp [hpg]))
    exact this.trans h.1
  · rw [swp_len]
    have e : ints (swp xs i j) = ((ints xs).set i (.int .i64 (nth xs j))).set j (.int .i64 (nth xs i)) := by simp [ints, swp, List.map_set]
    rw [e]
    exact h2
  · have hv' : some k ≠ some g := by
      intro hc
      exact hv (by simpa [Value.ownBlock] using hc.symm)
    exact (g2.block k (Nat.lt_of_lt_of_le hk g1.size) hv').trans (g1.block k hk hv')
theorem swp_comm {xs : List Int} {i j : Nat} : (xs.set j (nth xs i)).set i (nth xs j) = swp xs i j := by
  unfold swp
  by_cases h : i = j
  · subst h; rfl
  · rw [List.set_comm _ _ h]
theorem swp_swp (xs : List Int) (i j : Nat) : swp xs j i = swp xs i j := swp_comm
/-- Swap, at such a list -/
theorem swap_hs (p g c i j n : Nat) (xs : List Int) (w : World) (hn : xs.length = n) (h : HS w p (.slice (some ⟨g, 0, none⟩) n c) xs) (hi : i < n) (hj : j < n) :
    Calls Try.prog 186 #[.slice (some ⟨g, 0, none⟩) n c, .int .i64 i, .int .i64 j] w fun e w' => e = .returned (.tuple #[]) ∧ HS w' p (.slice (some ⟨g, 0, none⟩) n c) (swp xs i j) ∧ Moves w w' p (.slice (some ⟨g, 0, none⟩) n c) (.slice (some ⟨g, 0, none⟩) n c) := by
  subst hn
  have hc : ∀ i, i < xs.length → w.cell? ⟨g, i, none⟩ = some (.int .i64 (nth xs i)) := by
    intro i hi
    rw [h.2.cellAt i (by omega)]
    simp [ints, nth_some hi]
  refine (swap_any g xs.length c i j (nth xs i) (nth xs j) w hi hj (hc i hi) (hc j hj) (h.2.frozenAt i) (h.2.frozenAt j)).mono ?_
  rintro e w' ⟨rfl, rfl | rfl⟩
  · exact ⟨rfl, h.swap i j⟩
  · have := h.swap j i
    rw [swp_swp] at this
    exact ⟨rfl, this⟩
end Go.Proofs.Ytjifpjfinffamaa
