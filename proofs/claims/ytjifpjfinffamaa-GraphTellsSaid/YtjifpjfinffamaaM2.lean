/- Plain math: how far it is, and a shortest round. -/
import Derived.Test.YtjifpjfinffamaaLib4
namespace Go.Proofs.Ytjifpjfinffamaa
open Go.RowKit

open Classical in
/-- how many edges the shortest way has; -1: there is none -/
noncomputable def dst (l : List E) (s v : Int) : Int := if ∃ k, Wk l k s v then (leastOf (fun k => Wk l k s v) : Int) else -1
theorem dst_wk (l : List E) (s v : Int) : dst l s v = -1 ∨ (0 ≤ dst l s v ∧ Wk l (dst l s v).toNat s v) := by
  unfold dst
  split
  · rename_i h
    right
    exact ⟨by omega, by simpa using (leastOf_spec h).1⟩
  · exact .inl rfl
theorem dst_le {l : List E} {k : Nat} {s v : Int} (h : Wk l k s v) : 0 ≤ dst l s v ∧ dst l s v ≤ k := by
  have he : ∃ k, Wk l k s v := ⟨k, h⟩
  unfold dst
  rw [if_pos he]
  have := (leastOf_spec he).2 k h
  omega
theorem dst_eq {n : Int} {l : List E} {s v : Int} {d : List Int} (h : IsDist n l s d) (hv : 0 ≤ v ∧ v < n) : at_ d v = dst l s v := by
  rcases h.wk v hv.1 hv.2 with h1 | ⟨h1, w1⟩ <;> rcases dst_wk l s v with h2 | ⟨h2, w2⟩
  · rw [h1, h2]
  · have := (h.reach w2).1; omega
  · have := (dst_le w1).1; omega
  · have a := h.reach w2
    have b := dst_le w1
    omega
theorem dst_back {n : Int} {l : List E} {s v : Int} {b : List Int} (h : IsDist n (turn l) s b) (hv : 0 ≤ v ∧ v < n) : at_ b v = dst l v s := by
  rcases h.wk v hv.1 hv.2 with h1 | ⟨h1, w1⟩ <;> rcases dst_wk l v s with h2 | ⟨h2, w2⟩
  · rw [h1, h2]
  · have := (h.reach w2.turned).1; omega
  · have := (dst_le w1.back).1; omega
  · have a := h.reach w2.turned
    have b := dst_le w1.back
    omega
theorem dst_next {l : List E} {v s : Int} {k : Nat} (h : dst l v s = (k : Int) + 1) : ∃ i, i < l.length ∧ (eg l i).f = v ∧ dst l (eg l i).t s = k := by
  rcases dst_wk l v s with h1 | ⟨h1, w1⟩
  · omega
  · rw [show (dst l v s).toNat = k + 1 from by omega] at w1
    obtain ⟨e, he, hf, hw⟩ := w1
    obtain ⟨i, hi, rfl⟩ := List.mem_iff_getElem.1 he
    have hg : eg l i = l[i] := by simp [eg, List.getD, hi]
    refine ⟨i, hi, by rw [hg]; exact hf, ?_⟩
    rw [hg]
    have a := dst_le hw
    rcases dst_wk l l[i].t s with h2 | ⟨h2, w2⟩
    · omega
    · have : Wk l ((dst l l[i].t s).toNat + 1) v s := ⟨l[i], he, hf, w2⟩
      have := dst_le this
      omega

/-- the first of the numbers below m at which g is least (and no less than 0), and that one more -/
def pick (g : Nat → Int) : Nat → Option (Nat × Int)
  | 0 => none
  | i + 1 => match pick g i with
    | none => if 0 ≤ g i then some (i, g i + 1) else none
    | some (j, k) => if 0 ≤ g i ∧ g i + 1 < k then some (i, g i + 1) else some (j, k)
theorem pick_some {g : Nat → Int} : ∀ {m i : Nat} {k : Int}, pick g m = some (i, k) → i < m ∧ k = g i + 1 ∧ 0 ≤ g i
  | 0, _, _, h => by cases h
  | m + 1, i, k, h => by
    simp only [pick] at h
    split at h
    · split at h
      · injection h with h; injection h with h1 h2; subst h1 h2; exact ⟨by omega, rfl, by assumption⟩
      · cases h
    · rename_i j k' hj
      have ih := pick_some hj
      split at h
      · rename_i hc
        injection h with h; injection h with h1 h2; subst h1 h2; exact ⟨by omega, rfl, hc.1⟩
      · injection h with h; injection h with h1 h2; subst h1 h2; exact ⟨by omega, ih.2⟩
/-- the round's length at edge i -/
noncomputable def gap (l : List E) (i : Nat) : Int := dst l (eg l i).t (eg l i).f
/-- the first edge that leads from v to a node from which s is k edges away -/
noncomputable def step (l : List E) (s : Int) (k : Nat) (v : Int) : Nat := leastOf fun i => i < l.length ∧ (eg l i).f = v ∧ dst l (eg l i).t s = k
noncomputable def tail (l : List E) (s : Int) : Nat → Int → List Int
  | 0, _ => []
  | k + 1, v => (step l s k v : Int) :: tail l s k (eg l (step l s k v)).t
theorem step_spec {l : List E} {v s : Int} {k : Nat} (h : dst l v s = (k : Int) + 1) :
    step l s k v < l.length ∧ (eg l (step l s k v)).f = v ∧ dst l (eg l (step l s k v)).t s = k ∧ ∀ i, i < l.length → (eg l i).f = v → dst l (eg l i).t s = k → step l s k v ≤ i := by
  have hs := leastOf_spec (p := fun i => i < l.length ∧ (eg l i).f = v ∧ dst l (eg l i).t s = k) (dst_next h)
  exact ⟨hs.1.1, hs.1.2.1, hs.1.2.2, fun i h1 h2 h3 => hs.2 i ⟨h1, h2, h3⟩⟩
theorem tail_len (l : List E) (s : Int) : ∀ (k : Nat) (v : Int), (tail l s k v).length = k
  | 0, _ => rfl
  | k + 1, v => by simp [tail, tail_len l s k]
noncomputable def roundL (l : List E) (i : Nat) (k : Int) : List Int := (i : Int) :: tail l (eg l i).f (k - 1).toNat (eg l i).t
def RoundS (n : Int) (l : List E) (xs : List Int) (ok : Bool) (er : Int) : Prop :=
  (rightB n l = false ∧ xs = [] ∧ ok = false ∧ er = 2) ∨ (rightB n l = true ∧ er = 0 ∧
    ((pick (gap l) l.length = none ∧ xs = [] ∧ ok = false) ∨ ∃ i k, pick (gap l) l.length = some (i, k) ∧ xs = roundL l i k ∧ ok = true))
theorem RoundS.unique {n : Int} {l : List E} {xs ys : List Int} {a b : Bool} {e f : Int} (h : RoundS n l xs a e) (h' : RoundS n l ys b f) : xs = ys ∧ a = b ∧ e = f := by
  rcases h with ⟨h1, rfl, rfl, rfl⟩ | ⟨h1, rfl, h2⟩ <;> rcases h' with ⟨g1, rfl, rfl, rfl⟩ | ⟨g1, rfl, g2⟩
  · exact ⟨rfl, rfl, rfl⟩
  · rw [g1] at h1; cases h1
  · rw [g1] at h1; cases h1
  · rcases h2 with ⟨h2, rfl, rfl⟩ | ⟨i, k, h2, rfl, rfl⟩ <;> rcases g2 with ⟨g2, rfl, rfl⟩ | ⟨i', k', g2, rfl, rfl⟩
    · exact ⟨rfl, rfl, rfl⟩
    · rw [h2] at g2; cases g2
    · rw [h2] at g2; cases g2
    · rw [h2] at g2
      injection g2 with g2
      injection g2 with g3 g4
      subst g3 g4
      exact ⟨rfl, rfl, rfl⟩
/-- how the two programs hold what is picked: x its length, y its number -/
def PickR (x0 : Int) (l : List E) (k : Nat) (x y : Int) : Prop := (pick (gap l) k = none ∧ x = x0 ∧ y = -1) ∨ ∃ j : Nat, pick (gap l) k = some (j, x) ∧ y = j
theorem PickR.take {x0 : Int} {l : List E} {k : Nat} {x y z : Int} (h : PickR x0 l k x y) (hz : gap l k = z) (h0 : 0 ≤ z) (h1 : y < 0 ∨ z + 1 < x) : PickR x0 l (k + 1) (z + 1) k := by
  right
  refine ⟨k, ?_, rfl⟩
  rcases h with ⟨h, _, _⟩ | ⟨j, h, rfl⟩
  · simp [pick, h, hz, h0]
  · have hc : z + 1 < x := by omega
    simp [pick, h, hz, h0, hc]
theorem PickR.keep {x0 : Int} {l : List E} {k : Nat} {x y z : Int} (h : PickR x0 l k x y) (hz : gap l k = z) (h1 : z < 0 ∨ (0 ≤ y ∧ x ≤ z + 1)) : PickR x0 l (k + 1) x y := by
  rcases h with ⟨h, h2, h3⟩ | ⟨j, h, rfl⟩
  · left
    have : ¬ 0 ≤ z := by omega
    exact ⟨by simp [pick, h, hz, this], h2, h3⟩
  · right
    have hc : ¬ (0 ≤ z ∧ z + 1 < x) := by omega
    exact ⟨j, by simp [pick, h, hz, hc], rfl⟩
theorem PickR.pos {x0 : Int} {l : List E} {k : Nat} {x y : Int} (h : PickR x0 l k x y) : (x = x0 ∧ y < 0) ∨ (1 ≤ x ∧ 0 ≤ y) := by
  rcases h with ⟨_, h2, h3⟩ | ⟨j, h, rfl⟩
  · omega
  · have := pick_some h
    omega

/-- a round as it grows: xs is there, r edges are to come -/
structure Grows (l : List E) (i : Nat) (K : Int) (xs : List Int) (r last : Nat) : Prop where
  lt : last < l.length
  end_ : xs.getLast? = some (last : Int)
  len : (xs.length : Int) + r = K
  all : xs ++ tail l (eg l i).f r (eg l last).t = roundL l i K
  far : dst l (eg l last).t (eg l i).f = r
theorem Grows.start {l : List E} {i : Nat} {K : Int} (h : pick (gap l) l.length = some (i, K)) : Grows l i K [(i : Int)] (K - 1).toNat i := by
  have hp := pick_some h
  refine ⟨hp.1, rfl, by simp; omega, rfl, ?_⟩
  have : gap l i = dst l (eg l i).t (eg l i).f := rfl
  omega
theorem Grows.step {l : List E} {i : Nat} {K : Int} {xs : List Int} {r last : Nat} (h : Grows l i K xs (r + 1) last) :
    Grows l i K (xs ++ [(step l (eg l i).f r (eg l last).t : Int)]) r (Ytjifpjfinffamaa.step l (eg l i).f r (eg l last).t) := by
  have hs := step_spec (l := l) (v := (eg l last).t) (s := (eg l i).f) (k := r) (by have := h.far; omega)
  refine ⟨hs.1, by simp, by have := h.len; simp; omega, ?_, hs.2.2.1⟩
  have := h.all
  simp only [tail] at this
  simpa using this
theorem Grows.fin {l : List E} {i : Nat} {K : Int} {xs : List Int} {last : Nat} (h : Grows l i K xs 0 last) : xs = roundL l i K := by
  have := h.all
  simpa [tail] using this
theorem Grows.getLast {l : List E} {i : Nat} {K : Int} {xs : List Int} {r last : Nat} (h : Grows l i K xs r last) : 0 < xs.length ∧ xs[xs.length - 1]? = some (last : Int) := by
  have := h.end_
  rw [List.getLast?_eq_getElem?] at this
  exact ⟨by rcases xs with _ | _ <;> simp_all, this⟩
end Go.Proofs.Ytjifpjfinffamaa
