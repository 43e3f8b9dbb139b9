/- Plain math: how deep nodes lie, by an order. -/
import Derived.Test.YtjifpjfinffamaaM4
namespace Go.Proofs.Ytjifpjfinffamaa
open Go.RowKit

/-- an edge from x is looked at -/
def depE (x : Nat) (d : List Int) (e : E) : List Int := d.set e.t.toNat (max (nth d e.t.toNat) (nth d x + 1))
/-- the edges by their numbers are looked at -/
def depRow (l : List E) (x : Nat) (d : List Int) (row : List Int) : List Int := row.foldl (fun d i => depE x d (eg l i.toNat)) d
/-- the nodes are looked at, one by one -/
def deps (l : List E) (N : Nat) (xs : List Int) : List Int := xs.foldl (fun d x => depRow l x.toNat d (outRow l x.toNat l.length)) (List.replicate N 0)

/-- as long as N, all between 0 and B -/
def Bd (N B : Nat) (d : List Int) : Prop := d.length = N ∧ ∀ v, v < N → 0 ≤ nth d v ∧ nth d v ≤ B
theorem Bd.start (N : Nat) : Bd N 0 (List.replicate N 0) := by
  refine ⟨by simp, fun v hv => ?_⟩
  have : nth (List.replicate N (0 : Int)) v = 0 := by
    rw [nth_get (by simpa using hv)]
    simp
  omega
theorem Bd.step {N B : Nat} {d : List Int} (h : Bd N B d) {x : Nat} (hx : x < N) (e : E) : Bd N (B + 1) (depE x d e) := by
  refine ⟨by simp [depE, h.1], fun v hv => ?_⟩
  have h1 := h.2 v hv
  have h2 := h.2 x hx
  rw [nth_def, depE, List.getElem?_set]
  split
  · rename_i he
    subst he
    rw [if_pos (by rw [h.1]; exact hv)]
    simp only [Option.getD_some]
    omega
  · have : d[v]?.getD 0 = nth d v := rfl
    omega
theorem Bd.mono {N B B' : Nat} {d : List Int} (h : Bd N B d) (hB : B ≤ B') : Bd N B' d := ⟨h.1, fun v hv => by have := h.2 v hv; omega⟩
theorem depRow_snoc (l : List E) (x : Nat) (d row : List Int) (i : Int) : depRow l x d (row ++ [i]) = depE x (depRow l x d row) (eg l i.toNat) := by
  simp [depRow]
theorem deps_snoc (l : List E) (N : Nat) (xs : List Int) (x : Int) : deps l N (xs ++ [x]) = depRow l x.toNat (deps l N xs) (outRow l x.toNat l.length) := by
  simp [deps]
theorem take_snoc {α : Type} {xs : List α} {k : Nat} {x : α} (h : xs[k]? = some x) : xs.take (k + 1) = xs.take k ++ [x] := by
  rw [List.take_add_one, h]
  rfl
def DepthW (n : Int) (l : List E) (xs : List Int) (er : Int) : Prop :=
  (er ≠ 0 ∧ OrderS n l [] er ∧ xs = []) ∨ (er = 0 ∧ ∃ order, OrderS n l order 0 ∧ xs = deps l n.toNat order)
theorem DepthW.unique {n : Int} {l : List E} {xs ys : List Int} {e f : Int} (h : DepthW n l xs e) (h' : DepthW n l ys f) : xs = ys ∧ e = f := by
  rcases h with ⟨h1, h2, rfl⟩ | ⟨rfl, o, h2, rfl⟩ <;> rcases h' with ⟨g1, g2, rfl⟩ | ⟨rfl, o', g2, rfl⟩
  · exact ⟨rfl, (h2.unique g2).2⟩
  · exact absurd (h2.unique g2).2 h1
  · exact absurd (h2.unique g2).2.symm g1
  · obtain ⟨rfl, _⟩ := h2.unique g2
    exact ⟨rfl, rfl⟩
/-- an order that is whole -/
theorem OrderS.whole {n : Int} {l : List E} {xs : List Int} (h : OrderS n l xs 0) : ∃ N : Nat, n = N ∧ N ≤ 65536 ∧ Ok N l ∧ Full N l xs ∧ xs.length = N := by
  rcases h with ⟨_, _, h⟩ | ⟨h1, o, h2, ⟨_, _, h3⟩ | ⟨h3, rfl, _⟩⟩
  · omega
  · omega
  · obtain ⟨N, rfl, hN, ok⟩ := right_ok h1
    simp only [Int.toNat_natCast] at h2 h3
    exact ⟨N, rfl, hN, ok, h2, by have := h2.1.le; omega⟩
/-- where there is no whole order, nothing is told -/
theorem OrderS.none_ {n : Int} {l : List E} {xs : List Int} {er : Int} (h : OrderS n l xs er) (he : er ≠ 0) : xs = [] := by
  rcases h with ⟨_, h, _⟩ | ⟨_, o, _, ⟨_, h, _⟩ | ⟨_, _, h3⟩⟩
  · exact h
  · exact h
  · exact absurd h3 he
end Go.Proofs.Ytjifpjfinffamaa
