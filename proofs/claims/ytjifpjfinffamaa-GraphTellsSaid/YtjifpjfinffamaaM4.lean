/- Plain math: the least order of a graph. -/
import Derived.Test.YtjifpjfinffamaaW9
import Derived.Test.YtjifpjfinffamaaM3
namespace Go.Proofs.Ytjifpjfinffamaa
open Go.RowKit

/-- how many edges that are not yet struck out lead to v -/
def cnt (l : List E) (D : Nat → Bool) (v : Int) : Nat := (List.range l.length).countP fun k => !D k && decide ((eg l k).t = v)
def del (D : Nat → Bool) (k : Nat) : Nat → Bool := fun j => D j || decide (j = k)
/-- struck out: what leads from nodes that stand -/
def DX (l : List E) (xs : List Int) : Nat → Bool := fun k => decide ((eg l k).f ∈ xs)
theorem countP_one (n k : Nat) (p : Nat → Bool) (hk : k < n) (hp : p k = true) : (List.range n).countP (fun j => p j && !decide (j = k)) + 1 = (List.range n).countP p := by
  induction n with
  | zero => omega
  | succ n ih =>
    rw [List.range_succ, List.countP_append, List.countP_append, List.countP_singleton, List.countP_singleton]
    by_cases h : k = n
    · subst h
      have : (List.range k).countP (fun j => p j && !decide (j = k)) = (List.range k).countP p := by
        apply List.countP_congr
        intro j hj
        have := List.mem_range.1 hj
        simp [show ¬ j = k by omega]
      rw [this]
      simp [hp]
    · have := ih (by omega)
      simp only [show ¬ n = k from fun e => h e.symm, decide_false, Bool.not_false, Bool.and_true]
      omega
theorem cnt_congr {l : List E} {D D' : Nat → Bool} (h : ∀ k, k < l.length → D k = D' k) (v : Int) : cnt l D v = cnt l D' v := by
  unfold cnt
  apply List.countP_congr
  intro j hj
  rw [h j (List.mem_range.1 hj)]
theorem cnt_hit {l : List E} {D : Nat → Bool} {k : Nat} {v : Int} (hk : k < l.length) (hd : D k = false) (hv : (eg l k).t = v) : cnt l (del D k) v + 1 = cnt l D v := by
  unfold cnt
  rw [← countP_one l.length k (fun k => !D k && decide ((eg l k).t = v)) hk (by simp [hd, hv])]
  congr 1
  apply List.countP_congr
  intro j _
  simp only [del]
  cases D j <;> cases decide (j = k) <;> simp
theorem cnt_miss {l : List E} {D : Nat → Bool} {k : Nat} {v : Int} (hv : (eg l k).t ≠ v) : cnt l (del D k) v = cnt l D v := by
  unfold cnt
  apply List.countP_congr
  intro j _
  simp only [del]
  by_cases h : j = k
  · subst h; simp [hv]
  · simp [h]
theorem cnt_le (l : List E) (D : Nat → Bool) (v : Int) : cnt l D v ≤ l.length := by
  have := List.countP_le_length (p := fun k => !D k && decide ((eg l k).t = v)) (l := List.range l.length)
  simpa [cnt] using this

def rdy (N : Nat) (l : List E) (xs : List Int) (v : Int) : Prop := 0 ≤ v ∧ v < N ∧ v ∉ xs ∧ cnt l (DX l xs) v = 0
/-- an order as it grows: each time the least that may stand next -/
inductive Gr (N : Nat) (l : List E) : List Int → Prop
  | nil : Gr N l []
  | snoc {xs : List Int} {v : Int} : Gr N l xs → rdy N l xs v → (∀ u, rdy N l xs u → v ≤ u) → Gr N l (xs ++ [v])
theorem Gr.pre {N : Nat} {l : List E} {xs : List Int} (h : Gr N l xs) : ∀ k (hk : k < xs.length), Gr N l (xs.take k) ∧ rdy N l (xs.take k) xs[k] ∧ ∀ u, rdy N l (xs.take k) u → xs[k] ≤ u := by
  induction h with
  | nil => intro k hk; simp at hk
  | @snoc xs v h0 hr hm ih =>
    intro k hk
    simp at hk
    rcases Nat.lt_or_ge k xs.length with h | h
    · rw [List.take_append_of_le_length (by omega), List.getElem_append_left h]
      exact ih k h
    · obtain rfl : k = xs.length := by omega
      rw [List.take_append_of_le_length (by omega), List.take_length, List.getElem_append_right (by omega)]
      simp only [Nat.sub_self, List.getElem_cons_zero]
      exact ⟨h0, hr, hm⟩
theorem Gr.same {N : Nat} {l : List E} {xs ys : List Int} (h : Gr N l xs) (h' : Gr N l ys) (hle : xs.length ≤ ys.length) : xs = ys.take xs.length := by
  induction h with
  | nil => simp
  | @snoc xs v h0 hr hm ih =>
    simp at hle
    have e := ih (by omega)
    obtain ⟨g1, g2, g3⟩ := h'.pre xs.length (by omega)
    rw [← e] at g2 g3
    have : v = ys[xs.length] := by
      have := hm _ g2
      have := g3 _ hr
      omega
    rw [List.length_append, List.length_singleton, List.take_add_one, List.getElem?_eq_getElem (by omega), ← this, ← e]
    rfl
def Full (N : Nat) (l : List E) (xs : List Int) : Prop := Gr N l xs ∧ ∀ v, ¬ rdy N l xs v
theorem Full.unique {N : Nat} {l : List E} {xs ys : List Int} (h : Full N l xs) (h' : Full N l ys) : xs = ys := by
  have key : ∀ {xs ys : List Int}, Full N l xs → Full N l ys → xs.length ≤ ys.length → xs = ys := by
    intro xs ys h h' hle
    have e := h.1.same h'.1 hle
    rcases Nat.lt_or_ge xs.length ys.length with h1 | h1
    · have := (h'.1.pre xs.length h1).2.1
      rw [← e] at this
      exact absurd this (h.2 _)
    · rw [List.take_of_length_le h1] at e
      exact e
  rcases Nat.le_total xs.length ys.length with h1 | h1
  · exact key h h' h1
  · exact (key h' h h1).symm
def OrderS (n : Int) (l : List E) (xs : List Int) (er : Int) : Prop :=
  (rightB n l = false ∧ xs = [] ∧ er = 2) ∨ (rightB n l = true ∧ ∃ out, Full n.toNat l out ∧ ((out.length < n.toNat ∧ xs = [] ∧ er = 270) ∨ (n.toNat ≤ out.length ∧ xs = out ∧ er = 0)))
theorem OrderS.unique {n : Int} {l : List E} {xs ys : List Int} {e f : Int} (h : OrderS n l xs e) (h' : OrderS n l ys f) : xs = ys ∧ e = f := by
  rcases h with ⟨h1, rfl, rfl⟩ | ⟨h1, o, ho, h2⟩ <;> rcases h' with ⟨g1, rfl, rfl⟩ | ⟨g1, o', ho', g2⟩
  · exact ⟨rfl, rfl⟩
  · rw [h1] at g1; cases g1
  · rw [h1] at g1; cases g1
  · obtain rfl := ho.unique ho'
    rcases h2 with ⟨h2, rfl, rfl⟩ | ⟨h2, rfl, rfl⟩ <;> rcases g2 with ⟨g2, rfl, rfl⟩ | ⟨g2, rfl, rfl⟩
    · exact ⟨rfl, rfl⟩
    · omega
    · omega
    · exact ⟨rfl, rfl⟩
theorem Gr.nodup {N : Nat} {l : List E} {xs : List Int} (h : Gr N l xs) : xs.Nodup ∧ ∀ v ∈ xs, 0 ≤ v ∧ v < N := by
  induction h with
  | nil => simp
  | @snoc xs v h0 hr hm ih =>
    refine ⟨?_, fun u hu => ?_⟩
    · rw [List.nodup_append]
      refine ⟨ih.1, by simp, fun a ha b hb => ?_⟩
      simp at hb
      subst hb
      intro e
      subst e
      exact hr.2.2.1 ha
    · rw [List.mem_append] at hu
      rcases hu with hu | hu
      · exact ih.2 u hu
      · simp at hu; subst hu; exact ⟨hr.1, hr.2.1⟩
/-- numbers below N, each once: at most N of them -/
theorem nodup_le : ∀ (N : Nat) (xs : List Int), xs.Nodup → (∀ v ∈ xs, 0 ≤ v ∧ v < N) → xs.length ≤ N
  | 0, xs, _, h => by
    cases xs with
    | nil => simp
    | cons a bs => have := h a (by simp); omega
  | N + 1, xs, hd, h => by
    have h1 := nodup_le N (xs.filter fun v => decide (v ≠ (N : Int))) (hd.filter _) (fun v hv => by
      simp at hv
      have := h v hv.1
      omega)
    have h2 : xs.length ≤ (xs.filter fun v => decide (v ≠ (N : Int))).length + 1 := by
      clear h1 h
      induction xs with
      | nil => simp
      | cons a bs ih =>
        have hd2 := List.nodup_cons.1 hd
        by_cases ha : a = (N : Int)
        · subst ha
          have : (bs.filter fun v => decide (v ≠ (N : Int))) = bs := by
            apply List.filter_eq_self.2
            intro b hb
            simp
            intro e
            subst e
            exact hd2.1 hb
          simp at this ⊢
          rw [List.filter_eq_self.2 (by simpa using this)]
          exact Nat.le_refl _
        · have := ih hd2.2
          simp [ha] at this ⊢
          exact this
    omega
theorem Gr.le {N : Nat} {l : List E} {xs : List Int} (h : Gr N l xs) : xs.length ≤ N := nodup_le N xs h.nodup.1 h.nodup.2

/-- how many still lead to each node, as the programs count it -/
structure OI (N : Nat) (l : List E) (D : Nat → Bool) (xs : List Int) (ah : List Int) : Prop where
  len : ah.length = N
  val : ∀ v : Nat, v < N → nth ah v = cnt l D (v : Int)
  done : ∀ v ∈ xs, cnt l D v = 0
theorem OI.congr {N : Nat} {l : List E} {D D' : Nat → Bool} {xs ah : List Int} (h : OI N l D xs ah) (hd : ∀ k, k < l.length → D k = D' k) : OI N l D' xs ah :=
  ⟨h.len, fun v hv => by rw [← cnt_congr hd]; exact h.val v hv, fun v hv => by rw [← cnt_congr hd]; exact h.done v hv⟩
theorem OI.del {N : Nat} {l : List E} {D : Nat → Bool} {xs ah : List Int} (h : OI N l D xs ah) {k t : Nat} (hk : k < l.length) (hd : D k = false) (ht : (eg l k).t = (t : Int)) (htN : t < N) :
    OI N l (del D k) xs (ah.set t (nth ah t - 1)) ∧ 1 ≤ nth ah t ∧ (t : Int) ∉ xs := by
  have h1 := cnt_hit hk hd ht
  have h2 := h.val t htN
  refine ⟨⟨by simp [h.len], fun v hv => ?_, fun v hv => ?_⟩, by omega, fun hm => by have := h.done _ hm; omega⟩
  · by_cases e : v = t
    · subst e
      rw [nth_def, List.getElem?_set_self (by rw [h.len]; exact hv)]
      simp only [Option.getD_some]
      omega
    · rw [nth_def, List.getElem?_set_ne (fun e' => e e'.symm), ← nth_def, h.val v hv, cnt_miss (by rw [ht]; omega)]
  · have h3 := h.done v hv
    by_cases e : (t : Int) = v
    · subst e; omega
    · rw [cnt_miss (by rw [ht]; exact e)]; exact h3
theorem OI.bound {N : Nat} {l : List E} {D : Nat → Bool} {xs ah : List Int} (h : OI N l D xs ah) (v : Nat) (hv : v < N) : 0 ≤ nth ah v ∧ nth ah v ≤ l.length := by
  have := h.val v hv
  have := cnt_le l D v
  omega
/-- one edge more is counted -/
theorem OI.count {N : Nat} {l : List E} {ah : List Int} {m t : Nat} (h : OI N l (fun k => decide (m ≤ k)) [] ah) (hm : m < l.length) (ht : (eg l m).t = (t : Int)) (htN : t < N) :
    OI N l (fun k => decide (m + 1 ≤ k)) [] (ah.set t (nth ah t + 1)) := by
  have hdel : ∀ k, k < l.length → decide (m ≤ k) = Ytjifpjfinffamaa.del (fun k => decide (m + 1 ≤ k)) m k := by
    intro k _
    simp only [Ytjifpjfinffamaa.del]
    by_cases e : k = m
    · subst e; simp
    · have : (m ≤ k) = (m + 1 ≤ k) := by apply propext; omega
      simp [e, this]
  refine ⟨by simp [h.len], fun v hv => ?_, by simp⟩
  have h0 := h.val v hv
  rw [cnt_congr hdel] at h0
  by_cases e : v = t
  · subst e
    have := cnt_hit (D := fun k => decide (m + 1 ≤ k)) hm (by simp) ht
    rw [nth_def, List.getElem?_set_self (by rw [h.len]; exact hv)]
    simp only [Option.getD_some]
    omega
  · rw [cnt_miss (by rw [ht]; omega)] at h0
    rw [nth_def, List.getElem?_set_ne (fun e' => e e'.symm), ← nth_def]
    exact h0
theorem OI.start (N : Nat) (l : List E) : OI N l (fun k => decide (0 ≤ k)) [] (List.replicate N 0) := by
  refine ⟨by simp, fun v hv => ?_, by simp⟩
  have h1 : nth (List.replicate N 0) v = 0 := by simp [nth, List.getD, hv]
  have h2 : cnt l (fun k => decide (0 ≤ k)) (v : Int) = 0 := by
    unfold cnt
    rw [List.countP_eq_zero]
    intro k _
    simp
  omega
theorem OI.counted {N : Nat} {l : List E} {ah : List Int} (h : OI N l (fun k => decide (l.length ≤ k)) [] ah) : OI N l (DX l []) [] ah := by
  apply h.congr
  intro k hk
  simp [DX]
  exact hk

/-- the numbers that wait: those that may stand next -/
structure HI (N : Nat) (l : List E) (D : Nat → Bool) (xs hs : List Int) : Prop where
  nodup : hs.Nodup
  mem : ∀ v, v ∈ hs ↔ (0 ≤ v ∧ v < N ∧ v ∉ xs ∧ cnt l D v = 0)
theorem HI.congr {N : Nat} {l : List E} {D D' : Nat → Bool} {xs hs : List Int} (h : HI N l D xs hs) (hd : ∀ k, k < l.length → D k = D' k) : HI N l D' xs hs :=
  ⟨h.nodup, fun v => by rw [← cnt_congr hd]; exact h.mem v⟩
theorem HI.perm {N : Nat} {l : List E} {D : Nat → Bool} {xs hs hs' : List Int} (h : HI N l D xs hs) (hp : hs'.Perm hs) : HI N l D xs hs' :=
  ⟨hp.nodup_iff.2 h.nodup, fun v => by rw [hp.mem_iff]; exact h.mem v⟩
theorem HI.le {N : Nat} {l : List E} {D : Nat → Bool} {xs hs : List Int} (h : HI N l D xs hs) : hs.length ≤ N := nodup_le N hs h.nodup fun v hv => by have := (h.mem v).1 hv; omega
/-- the least is taken -/
theorem HI.take {N : Nat} {l : List E} {D : Nat → Bool} {xs hs hs' : List Int} {x : Int} (h : HI N l D xs hs) (hp : (x :: hs').Perm hs) : HI N l D (xs ++ [x]) hs' := by
  have hn := hp.nodup_iff.2 h.nodup
  have hn2 := List.nodup_cons.1 hn
  refine ⟨hn2.2, fun v => ?_⟩
  have h1 := h.mem v
  rw [← hp.mem_iff, List.mem_cons] at h1
  rw [List.mem_append, List.mem_singleton]
  constructor
  · intro hv
    have := h1.1 (.inr hv)
    refine ⟨this.1, this.2.1, ?_, this.2.2.2⟩
    rintro (h2 | h2)
    · exact this.2.2.1 h2
    · subst h2; exact hn2.1 hv
  · rintro ⟨a, b, c, d⟩
    rcases h1.2 ⟨a, b, fun h2 => c (.inl h2), d⟩ with h2 | h2
    · exact absurd (.inr h2) c
    · exact h2
theorem HI.keep {N : Nat} {l : List E} {D : Nat → Bool} {xs hs : List Int} (h : HI N l D xs hs) {k : Nat} {t : Int} (hk : k < l.length) (hd : D k = false) (ht : (eg l k).t = t) (h0 : cnt l (del D k) t ≠ 0) : HI N l (del D k) xs hs := by
  refine ⟨h.nodup, fun v => ?_⟩
  rw [h.mem v]
  by_cases e : t = v
  · subst e
    have := cnt_hit hk hd ht
    constructor
    · rintro ⟨_, _, _, d⟩; omega
    · rintro ⟨_, _, _, d⟩; omega
  · rw [cnt_miss (by rw [ht]; exact e)]
theorem HI.push {N : Nat} {l : List E} {D : Nat → Bool} {xs hs hs' : List Int} (h : HI N l D xs hs) {k : Nat} {t : Int} (hk : k < l.length) (hd : D k = false) (ht : (eg l k).t = t) (h0 : cnt l (del D k) t = 0)
    (ht0 : 0 ≤ t) (htN : t < N) (htx : t ∉ xs) (hp : hs'.Perm (t :: hs)) : HI N l (del D k) xs hs' := by
  have hc := cnt_hit hk hd ht
  have hnt : t ∉ hs := by
    rw [h.mem]
    rintro ⟨_, _, _, d⟩
    omega
  refine HI.perm ⟨List.nodup_cons.2 ⟨hnt, h.nodup⟩, fun v => ?_⟩ hp
  rw [List.mem_cons, h.mem v]
  by_cases e : v = t
  · subst e
    exact ⟨fun _ => ⟨ht0, htN, htx, h0⟩, fun _ => .inl rfl⟩
  · rw [cnt_miss (by rw [ht]; exact fun e' => e e'.symm)]
    constructor
    · rintro (h2 | h2)
      · exact absurd h2 e
      · exact h2
    · exact fun h2 => .inr h2
/-- the waiting list at the start -/
def zeros (ah : List Int) (k : Nat) : List Int := ((List.range k).filter fun v => decide (nth ah v = 0)).map Int.ofNat
theorem zeros_hit {ah : List Int} {k : Nat} (h : nth ah k = 0) : zeros ah (k + 1) = zeros ah k ++ [(k : Int)] := by simp [zeros, List.range_succ, h]
theorem zeros_miss {ah : List Int} {k : Nat} (h : nth ah k ≠ 0) : zeros ah (k + 1) = zeros ah k := by simp [zeros, List.range_succ, h]
theorem zeros_len (ah : List Int) (k : Nat) : (zeros ah k).length ≤ k := by
  have := List.length_filter_le (fun v => decide (nth ah v = 0)) (List.range k)
  simpa [zeros] using this
theorem HI.start {N : Nat} {l : List E} {ah : List Int} (h : OI N l (DX l []) [] ah) : HI N l (DX l []) [] (zeros ah N) := by
  constructor
  · unfold zeros
    rw [List.nodup_iff_pairwise_ne, List.pairwise_map]
    refine (List.pairwise_lt_range.filter _).imp fun {a b} hab => ?_
    intro e
    have : (a : Int) = (b : Int) := e
    omega
  · intro v
    simp only [zeros, List.mem_map, List.mem_filter, List.mem_range, decide_eq_true_eq, List.not_mem_nil, not_false_eq_true, true_and]
    constructor
    · rintro ⟨a, ⟨ha, h0⟩, rfl⟩
      have := h.val a ha
      exact ⟨Int.natCast_nonneg _, by simpa using ha, by simp only [Int.ofNat_eq_natCast]; omega⟩
    · rintro ⟨h0, h1, h2⟩
      obtain ⟨a, rfl⟩ := Int.eq_ofNat_of_zero_le h0
      have := h.val a (by omega)
      exact ⟨a, ⟨by omega, by omega⟩, rfl⟩
end Go.Proofs.Ytjifpjfinffamaa
