/- Plain math: heaps of numbers in a list. -/
import Derived.Test.YtjifpjfinffamaaM1
namespace Go.Proofs.Ytjifpjfinffamaa

def nth (xs : List Int) (i : Nat) : Int := xs.getD i 0
theorem nth_get {xs : List Int} {i : Nat} (h : i < xs.length) : nth xs i = xs[i] := by simp [nth, List.getD, h]
theorem nth_some {xs : List Int} {i : Nat} (h : i < xs.length) : xs[i]? = some (nth xs i) := by rw [nth_get h, List.getElem?_eq_getElem h]
def swp (xs : List Int) (i j : Nat) : List Int := (xs.set i (nth xs j)).set j (nth xs i)
theorem swp_len (xs : List Int) (i j : Nat) : (swp xs i j).length = xs.length := by simp [swp]
theorem nth_def (xs : List Int) (i : Nat) : nth xs i = (xs[i]?).getD 0 := rfl
theorem swp_nth {xs : List Int} {i j : Nat} (hi : i < xs.length) (hj : j < xs.length) (k : Nat) : nth (swp xs i j) k = if k = j then nth xs i else if k = i then nth xs j else nth xs k := by
  rw [nth_def (swp xs i j)]
  unfold swp
  simp only [List.getElem?_set]
  by_cases h1 : j = k
  · subst h1; simp [hj]
  · by_cases h2 : i = k
    · subst h2; simp [hi, h1, Ne.symm h1]
    · simp [h1, h2, Ne.symm h1, Ne.symm h2, nth_def]
theorem swp_perm {xs : List Int} {i j : Nat} (hi : i < xs.length) (hj : j < xs.length) : (swp xs i j).Perm xs := by
  rw [List.perm_iff_count]
  intro a
  unfold swp
  obtain ⟨x, hx⟩ : ∃ x, nth xs i = x := ⟨_, rfl⟩
  obtain ⟨y, hy⟩ : ∃ y, nth xs j = y := ⟨_, rfl⟩
  rw [hx, hy]
  have h2 : j < (xs.set i y).length := by simpa using hj
  rw [List.count_set h2, List.count_set hi]
  have e1 : xs[i] = x := by rw [← hx, nth_get hi]
  have e2 : xs[j] = y := by rw [← hy, nth_get hj]
  have c1 : 0 < List.count x xs := by rw [← e1]; exact List.count_pos_iff.2 (List.getElem_mem hi)
  have c2 : 0 < List.count y xs := by rw [← e2]; exact List.count_pos_iff.2 (List.getElem_mem hj)
  have e3 : (xs.set i y)[j] = y := by
    rw [List.getElem_set]
    split
    · rfl
    · exact e2
  rw [e3, e1]
  by_cases ha : x = a <;> by_cases hb : y = a
  · subst ha; subst hb; simp; omega
  · subst ha; simp [hb]; omega
  · subst hb; simp [ha]
  · simp [ha, hb]
theorem swp_take {xs : List Int} {i j n : Nat} (hi : i < n) (hj : j < n) : (swp xs i j).take n = swp (xs.take n) i j := by
  unfold swp
  have h1 : nth (xs.take n) j = nth xs j := by simp [nth, List.getD, hj]
  have h2 : nth (xs.take n) i = nth xs i := by simp [nth, List.getD, hi]
  rw [List.take_set, List.take_set, h1, h2]

/-- the first n are a heap, as far as parents at a and behind it go -/
def HP (xs : List Int) (n a : Nat) : Prop := ∀ p c, a ≤ p → c < n → (c = 2 * p + 1 ∨ c = 2 * p + 2) → nth xs p ≤ nth xs c
/-- but for the children of i -/
def HPd (xs : List Int) (n a i : Nat) : Prop :=
  (∀ p c, a ≤ p → p ≠ i → c < n → (c = 2 * p + 1 ∨ c = 2 * p + 2) → nth xs p ≤ nth xs c) ∧
  (∀ p c, a ≤ p → (i = 2 * p + 1 ∨ i = 2 * p + 2) → c < n → (c = 2 * i + 1 ∨ c = 2 * i + 2) → nth xs p ≤ nth xs c)
/-- but for j and its parent -/
def HPu (xs : List Int) (n j : Nat) : Prop :=
  (∀ p c, c ≠ j → c < n → (c = 2 * p + 1 ∨ c = 2 * p + 2) → nth xs p ≤ nth xs c) ∧
  (∀ p c, (j = 2 * p + 1 ∨ j = 2 * p + 2) → c < n → (c = 2 * j + 1 ∨ c = 2 * j + 2) → nth xs p ≤ nth xs c)
theorem HP.top {xs : List Int} {n : Nat} (h : HP xs n 0) : ∀ k, k < n → nth xs 0 ≤ nth xs k := by
  intro k
  induction k using Nat.strongRecOn with
  | ind k ih =>
    intro hk
    rcases Nat.eq_zero_or_pos k with h0 | h0
    · subst h0; exact Int.le_refl _
    · have h1 := ih ((k - 1) / 2) (by omega) (by omega)
      have h2 := h ((k - 1) / 2) k (by omega) hk (by omega)
      omega
theorem HP.none_ {xs : List Int} {n a : Nat} (h : n ≤ 2 * a + 1) : HP xs n a := by
  intro p c hp hc hpc
  omega
theorem HP.start {xs : List Int} {n a : Nat} (h : HP xs n (a + 1)) : HPd xs n a a := by
  refine ⟨fun p c hp hne hc hpc => h p c (by omega) hc hpc, fun p c hp hi hc hpc => by omega⟩
theorem HPd.stop {xs : List Int} {n a i : Nat} (h : HPd xs n a i) (h1 : ∀ c, c < n → (c = 2 * i + 1 ∨ c = 2 * i + 2) → nth xs i ≤ nth xs c) : HP xs n a := by
  intro p c hp hc hpc
  by_cases hpi : p = i
  · subst hpi; exact h1 c hc hpc
  · exact h.1 p c hp hpi hc hpc
/-- one goes down: j is i's least child -/
theorem HPd.step {xs : List Int} {n a i j : Nat} (h : HPd xs n a i) (hn : n ≤ xs.length) (hi : a ≤ i) (hj : j < n) (hji : j = 2 * i + 1 ∨ j = 2 * i + 2)
    (hlt : nth xs j < nth xs i) (hmin : ∀ c, c < n → (c = 2 * i + 1 ∨ c = 2 * i + 2) → nth xs j ≤ nth xs c) : HPd (swp xs i j) n a j := by
  have hil : i < xs.length := by omega
  have hjl : j < xs.length := by omega
  have hne : i ≠ j := by omega
  constructor
  · intro p c hp hpj hc hpc
    rw [swp_nth hil hjl, swp_nth hil hjl]
    rw [if_neg hpj]
    by_cases hpi : p = i
    · subst hpi
      rw [if_pos rfl]
      by_cases hcj : c = j
      · rw [if_pos hcj]; omega
      · rw [if_neg hcj, if_neg (by omega)]; exact hmin c hc hpc
    · rw [if_neg hpi]
      by_cases hci : c = i
      · subst hci
        rw [if_neg hne, if_pos rfl]
        exact h.2 p j hp hpc hj hji
      · by_cases hcj : c = j
        · omega
        · rw [if_neg hcj, if_neg hci]; exact h.1 p c hp hpi hc hpc
  · intro p c hp hjp hc hpc
    have hpi : p = i := by omega
    subst hpi
    rw [swp_nth hil hjl, swp_nth hil hjl, if_neg hne, if_pos rfl, if_neg (by omega), if_neg (by omega)]
    exact h.1 j c (by omega) (by omega) hc hpc
/-- a new last one -/
theorem HP.push {xs : List Int} {n : Nat} (x : Int) (hn : n = xs.length) (h : HP xs n 0) : HPu (xs ++ [x]) (n + 1) n := by
  have hk : ∀ k, k < n → nth (xs ++ [x]) k = nth xs k := by
    intro k hk
    simp [nth, List.getD, List.getElem?_append, show k < xs.length from by omega]
  constructor
  · intro p c hcn hc hpc
    rw [hk p (by omega), hk c (by omega)]
    exact h p c (by omega) (by omega) hpc
  · intro p c hj hc hpc
    omega
theorem HPu.stop {xs : List Int} {n j : Nat} (h : HPu xs n j) (h1 : ∀ p, (j = 2 * p + 1 ∨ j = 2 * p + 2) → nth xs p ≤ nth xs j) : HP xs n 0 := by
  intro p c _ hc hpc
  by_cases hcj : c = j
  · subst hcj; exact h1 p hpc
  · exact h.1 p c hcj hc hpc
theorem HPu.step {xs : List Int} {n i j : Nat} (h : HPu xs n j) (hn : n ≤ xs.length) (hj : j < n) (hji : j = 2 * i + 1 ∨ j = 2 * i + 2) (hlt : nth xs j < nth xs i) : HPu (swp xs i j) n i := by
  have hil : i < xs.length := by omega
  have hjl : j < xs.length := by omega
  have hne : i ≠ j := by omega
  constructor
  · intro p c hci hc hpc
    rw [swp_nth hil hjl, swp_nth hil hjl]
    by_cases hcj : c = j
    · subst hcj
      have hpi : p = i := by omega
      subst hpi
      rw [if_neg hne, if_pos rfl, if_pos rfl]
      omega
    · rw [if_neg hcj, if_neg hci]
      by_cases hpj : p = j
      · subst hpj
        rw [if_pos rfl]
        exact h.2 i c hji hc hpc
      · rw [if_neg hpj]
        by_cases hpi : p = i
        · subst hpi
          rw [if_pos rfl]
          have := h.1 p c hcj hc hpc
          omega
        · rw [if_neg hpi]; exact h.1 p c hcj hc hpc
  · intro p c hip hc hpc
    rw [swp_nth hil hjl, swp_nth hil hjl, if_neg (by omega), if_neg (by omega)]
    have h0 := h.1 p i (by omega) (by omega) hip
    by_cases hcj : c = j
    · rw [if_pos hcj]; exact h0
    · rw [if_neg hcj, if_neg (by omega)]
      have := h.1 i c hcj hc hpc
      omega
theorem HP.congr {xs ys : List Int} {n a : Nat} (h : HP xs n a) (hk : ∀ k, k < n → nth ys k = nth xs k) : HP ys n a := by
  intro p c hp hc hpc
  rw [hk p (by omega), hk c hc]
  exact h p c hp hc hpc
theorem HP.less {xs : List Int} {n m a : Nat} (h : HP xs n a) (hm : m ≤ n) : HP xs m a := fun p c hp hc hpc => h p c hp (by omega) hpc
end Go.Proofs.Ytjifpjfinffamaa
