/- Lists of one's own, one behind the other, lie apart; how far a node can be. -/
import Derived.Test.YtjifpjfinffamaaW3
import Derived.Test.YtjifpjfinffamaaM2
import Derived.Test.YtjifpjfinffamaaM4
namespace Go.Proofs.Ytjifpjfinffamaa
open Go.RowKit

theorem intsB_self (xs : List Int) : intsB xs xs = true := by simp [intsB]

/-- m lists, list j in a block from f j on and ahead of f (j + 1) -/
theorem apart_row (m : Nat) (hm : m ≤ 3) (A : Nat → Option Addr) (c : Nat → Nat) (ys : Nat → List Int) (f : Nat → Nat) (cs : Array Value) (cm : Nat) (w : World)
    (hown : ∀ j, j < m → OwnI w (f j) (A j) (c j) (ys j)) (hlt : ∀ j, j < m → ∀ g, (Value.slice (A j) (ys j).length (c j)).ownBlock = some g → g < f (j + 1))
    (hf : ∀ i j, i ≤ j → f i ≤ f j) (hsh : ∀ j, j < m → (ys j).length ≤ 1099511627776) (hcs : ∀ j, j < m → cs[j]? = some (.slice (A j) (ys j).length (c j))) (h0 : f 0 ≤ w.heap.size) :
    Calls Try.prog 29 #[.slice (some ⟨w.heap.size, 0, none⟩) m cm] (w.alloc (.cells cs 31)) fun e w' => e = .returned (.bool true) ∧ Below (f 0) w w' := by
  have hal := (Below.refl w.heap.size w).alloc (Nat.le_refl _) (.cells cs 31)
  have h := apart_any ⟨m, A, fun j => (ys j).length, c⟩
    ⟨by show m ≤ 65536; omega, hsh, fun i j hi hj hij => by
      have e1 : ∀ k, k < m → ∀ g, (Value.slice (A k) (ys k).length (c k)).ownBlock = some g → f k ≤ g ∧ g < f (k + 1) := fun k hk g hg => ⟨((hown k hk).lt g hg).1, hlt k hk g hg⟩
      show (Value.slice (A i) (ys i).length (c i)).ownBlock = none ∨ (Value.slice (A i) (ys i).length (c i)).ownBlock ≠ (Value.slice (A j) (ys j).length (c j)).ownBlock
      cases hq : (Value.slice (A i) (ys i).length (c i)).ownBlock with
      | none => exact .inl rfl
      | some g =>
        refine .inr fun hx => ?_
        have a1 := e1 i hi g hq
        have a2 := e1 j hj g hx.symm
        rcases Nat.lt_or_gt_of_ne hij with h1 | h1
        · have := hf (i + 1) j h1; omega
        · have := hf (j + 1) i h1; omega⟩
    w.heap.size (f 0) cm (w.alloc (.cells cs 31))
    ⟨⟨cs, (MapKept.heap_alloc w _).1⟩, fun j hj => by
      rw [World.cell?_alloc_new w cs 31 j]
      exact hcs j hj⟩
    (by simp; omega) ys (fun j hj => ⟨rfl, (OwnI.below (hown j hj) (Nat.le_refl _) hal).base (hf 0 j (Nat.zero_le _))⟩)
  exact h.mono fun e w' ⟨he, hb⟩ => ⟨he, ((hal.mono h0)).trans hb⟩

theorem dst_path {N : Nat} {l : List E} {s : Int} (ok : Ok N l) : ∀ (k : Nat) (v : Int), dst l v s = k → 0 ≤ v ∧ v < N → ∃ L : List Int, L.length = k + 1 ∧ L.Nodup ∧ ∀ x ∈ L, (0 ≤ x ∧ x < N) ∧ dst l x s ≤ k
  | 0, v, hd, hv => ⟨[v], rfl, by simp, fun x hx => by
      obtain rfl : x = v := by simpa using hx
      exact ⟨hv, by omega⟩⟩
  | k + 1, v, hd, hv => by
    obtain ⟨i, hi, hf, ht⟩ := dst_next (l := l) (v := v) (s := s) (k := k) (by omega)
    have hm : eg l i ∈ l := by
      have : eg l i = l[i] := by simp [eg, List.getD, hi]
      rw [this]
      exact List.getElem_mem hi
    obtain ⟨L, h1, h2, h3⟩ := dst_path ok k (eg l i).t ht (ok _ hm).2
    refine ⟨v :: L, by simp [h1], List.nodup_cons.2 ⟨fun hx => ?_, h2⟩, fun x hx => ?_⟩
    · have := (h3 v hx).2; omega
    · rcases List.mem_cons.1 hx with rfl | hx
      · exact ⟨hv, by omega⟩
      · have := h3 x hx; exact ⟨this.1, by omega⟩
theorem dst_few {N : Nat} {l : List E} {s v : Int} (ok : Ok N l) (hv : 0 ≤ v ∧ v < N) : dst l v s < N := by
  rcases Int.lt_or_le (dst l v s) 0 with h | h
  · omega
  · obtain ⟨k, hk⟩ := Int.eq_ofNat_of_zero_le h
    obtain ⟨L, h1, h2, h3⟩ := dst_path ok k v hk hv
    have := nodup_le N L h2 (fun x hx => (h3 x hx).1)
    omega
theorem RoundS.short {n : Int} {l : List E} {xs : List Int} {b : Bool} {e : Int} (h : RoundS n l xs b e) : xs.length ≤ 65536 := by
  rcases h with ⟨_, rfl, _, _⟩ | ⟨h1, _, ⟨_, rfl, _⟩ | ⟨i, k, h2, rfl, _⟩⟩
  · simp
  · simp
  · obtain ⟨N, rfl, hN, ok⟩ := right_ok h1
    have hp := pick_some h2
    have hm : eg l i ∈ l := by
      have : eg l i = l[i]'hp.1 := by simp [eg, List.getD, hp.1]
      rw [this]
      exact List.getElem_mem _
    have := dst_few (s := (eg l i).f) ok (ok _ hm).2
    have hg : gap l i = dst l (eg l i).t (eg l i).f := rfl
    simp only [roundL, List.length_cons, tail_len]
    omega
end Go.Proofs.Ytjifpjfinffamaa
