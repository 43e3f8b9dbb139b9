/- Lists of ints of the call's own: one is pushed; and which graphs are right. -/
import Derived.Test.YtjifpjfinffamaaW6
namespace Go.Proofs.Ytjifpjfinffamaa
open Go.RowKit

/-- a list of ints that the call itself has made: its block lies at 'base' or above it -/
def OwnI (w : World) (base : Nat) (A : Option Addr) (c : Nat) (xs : List Int) : Prop := w.ownsRow base 3 1 (.slice A xs.length c) xs.length (ints xs)
theorem OwnI.nil (w : World) (base : Nat) : OwnI w base none 0 [] := World.ownsRow_nil w base 3 1
theorem OwnI.reads {w : World} {base : Nat} {A : Option Addr} {c : Nat} {xs : List Int} (h : OwnI w base A c xs) : RK .i64 w w.heap.size A xs := RK.of_own h
theorem OwnI.base {w : World} {base base' : Nat} {A : Option Addr} {c : Nat} {xs : List Int} (h : OwnI w base A c xs) (hb : base' ≤ base) : OwnI w base' A c xs := own_base h hb
theorem OwnI.below {w w' : World} {base B : Nat} {A : Option Addr} {c : Nat} {xs : List Int} (h : OwnI w base A c xs) (hw : w.heap.size ≤ B) (hb : Below B w w') : OwnI w' base A c xs := by
  refine ⟨h.1, ?_⟩
  rcases h.2 with h2 | ⟨g, cap, cur, hv, hbg, hh, h3⟩
  · exact .inl h2
  · exact .inr ⟨g, cap, cur, hv, hbg, (hb.block g (Nat.lt_of_lt_of_le (Array.getElem?_eq_some_iff.1 hh).1 hw)).trans hh, h3⟩
theorem OwnI.of_far {w : World} {base N c : Nat} {A : Option Addr} {d : List Int} (h : w.ownsRow base 3 1 (.slice A N c) N (ints d)) : d.length = N ∧ OwnI w base A c d := by
  have hl : d.length = N := by have := h.1; simpa [ints] using this
  subst hl
  exact ⟨rfl, h⟩

section
variable {P : Program} (w : World)
/-- append(s, y) to such a list -/
theorem wl_push {ops : Array Oper} {rest : List Oper} {o : Oper} {a : Act} {Q : Exit → Act → World → Prop} (hgd : o.guard = none) (s x : Operand) (t : TypeId)
    (ho : o.op = .call { callee := .builtin .append, args := #[s, x], argTypes := #[t, t] })
    (hinfo : (P.info? 3).map (fun i => (i.zero, i.size, i.bytes)) = some (some (.int .i64 0), 1, 8)) (ht : P.underlying t = some (.slice 3))
    (base : Nat) (A : Option Addr) (c : Nat) (xs : List Int) (hs : a.eval s = .slice A xs.length c) (hown : OwnI w base A c xs)
    (b c1 : Nat) (y : Int) (hx : a.eval x = .slice (some ⟨b, 0, none⟩) 1 c1) (hb : w.heap[b]? = some (.cells #[.int .i64 y] 3 (0, 0)))
    (hbytes : xs.length + 1 ≤ 17592186044416) (hbase : base ≤ w.heap.size)
    (h : ∀ A' c' w', OwnI w' base A' c' (xs ++ [y]) → (∀ a B, B ≤ base → Below B a w → Below B a w') → wpList P ops Q rest (a.put o.dst (.slice A' (xs.length + 1) c')) w') : wpList P ops Q (o :: rest) a w := by
  refine wl_append1 w hgd s x t ho base 3 (.int .i64 0) 1 8 hinfo ht rfl (by decide) _ _ _ hs hown b c1 [.int .i64 y] hx hb rfl (by simp [Value.oneCell']) (by omega) (by omega) hbase _ rfl ?_
  intro g cap w' h1 h2 h3 h4
  refine h _ _ w' ?_ fun a B hB hbel => hbel.grown h2 (Nat.le_trans hB hbase) fun k hk => Nat.le_trans hB (hown.lt k hk).1
  unfold OwnI
  rw [show (xs ++ [y]).length = xs.length + 1 from by simp, show ints (xs ++ [y]) = ints xs ++ [.int .i64 y] from by simp [ints]]
  exact h1
end

theorem right_ok {n : Int} {l : List E} (h : rightB n l = true) : ∃ N : Nat, n = N ∧ N ≤ 65536 ∧ Ok N l := by
  simp only [rightB, Bool.and_eq_true, List.all_eq_true, decide_eq_true_eq, inB] at h
  obtain ⟨h1, h2, h3⟩ := h
  obtain ⟨N, rfl⟩ := Int.eq_ofNat_of_zero_le h2
  refine ⟨N, rfl, by omega, fun e he => ?_⟩
  have := h1 e he
  omega
/-- the nodes to which ways lead -/
def reachL (d : List Int) (k : Nat) : List Int := ((List.range k).filter fun v : Nat => decide (0 ≤ at_ d (v : Int))).map Int.ofNat
theorem reachL_hit {d : List Int} {k : Nat} (h : 0 ≤ at_ d k) : reachL d (k + 1) = reachL d k ++ [(k : Int)] := by
  simp [reachL, List.range_succ, h]
theorem reachL_miss {d : List Int} {k : Nat} (h : ¬ 0 ≤ at_ d k) : reachL d (k + 1) = reachL d k := by
  simp [reachL, List.range_succ, h]
theorem reachL_len (d : List Int) (k : Nat) : (reachL d k).length ≤ k := by
  have := List.length_filter_le (fun v : Nat => decide (0 ≤ at_ d (v : Int))) (List.range k)
  simpa [reachL] using this
def ReachS (n σ : Int) (l : List E) (xs : List Int) (er : Int) : Prop :=
  ((rightB n l = false ∨ σ < 0 ∨ n ≤ σ) ∧ xs = [] ∧ er = 2) ∨ (rightB n l = true ∧ 0 ≤ σ ∧ σ < n ∧ er = 0 ∧ ∃ d, IsDist n l σ d ∧ xs = reachL d n.toNat)
theorem ReachS.unique {n σ : Int} {l : List E} {xs ys : List Int} {e f : Int} (h : ReachS n σ l xs e) (h' : ReachS n σ l ys f) : xs = ys ∧ e = f := by
  rcases h with ⟨h1, rfl, rfl⟩ | ⟨h1, h2, h3, rfl, d, hd, rfl⟩ <;> rcases h' with ⟨g1, rfl, rfl⟩ | ⟨g1, g2, g3, rfl, d', hd', rfl⟩
  · exact ⟨rfl, rfl⟩
  · rw [g1] at h1; rcases h1 with h1 | h1 | h1
    · cases h1
    · omega
    · omega
  · rw [h1] at g1; rcases g1 with h1 | h1 | h1
    · cases h1
    · omega
    · omega
  · rw [hd.unique hd']; exact ⟨rfl, rfl⟩
end Go.Proofs.Ytjifpjfinffamaa
