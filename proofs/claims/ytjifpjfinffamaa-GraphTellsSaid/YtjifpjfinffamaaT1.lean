/- Plain math: the theorem of the graphs: an order just if there is no round; what stands side by side; the needed edges reach as far. -/
import Derived.Test.YtjifpjfinffamaaM8
import Derived.Test.YtjifpjfinffamaaM2
import Derived.Test.YtjifpjfinffamaaK1
import Derived.Test.YtjifpjfinffamaaLib4
namespace Go.Proofs.Ytjifpjfinffamaa
open Go.RowKit

/-! an order just if there is no round -/
theorem nodup_in {ys : List Int} : ∀ {xs : List Int}, xs.Nodup → (∀ v ∈ xs, v ∈ ys) → xs.length ≤ ys.length := by
  intro xs hn hs
  induction xs generalizing ys with
  | nil => simp
  | cons a xs ih =>
    have h1 := List.nodup_cons.1 hn
    have h2 := hs a List.mem_cons_self
    have := ih (ys := ys.erase a) h1.2 (fun v hv => (List.mem_erase_of_ne (fun e => h1.1 (by rw [← e]; exact hv))).2 (hs v (List.mem_cons_of_mem _ hv)))
    rw [List.length_erase_of_mem h2] at this
    have := List.length_pos_of_mem h2
    simp
    omega
theorem short_miss {N : Nat} {xs : List Int} (h : xs.length < N) : ∃ v : Nat, v < N ∧ (v : Int) ∉ xs := by
  apply Classical.byContradiction
  intro hc
  have hall : ∀ v : Nat, v < N → (v : Int) ∈ xs := fun v hv => Classical.byContradiction fun h => hc ⟨v, hv, h⟩
  have h1 : ((List.range N).map Int.ofNat).Nodup := by
    unfold List.Nodup
    rw [List.pairwise_map]
    exact List.nodup_range.imp (fun {a b} h e => h (Int.ofNat.inj e))
  have := nodup_in (ys := xs) h1 (fun v hv => by
    obtain ⟨u, hu, rfl⟩ := List.mem_map.1 hv
    exact hall u (List.mem_range.1 hu))
  simp at this
  omega
theorem cnt_one {l : List E} {D : Nat → Bool} {v : Int} (h : cnt l D v ≠ 0) : ∃ k, k < l.length ∧ D k = false ∧ (eg l k).t = v := by
  unfold cnt at h
  have h1 := List.countP_pos_iff.1 (Nat.pos_of_ne_zero h)
  obtain ⟨k, hk, h2⟩ := h1
  simp at h2
  exact ⟨k, List.mem_range.1 hk, h2.1, h2.2⟩
theorem cnt_none {l : List E} {D : Nat → Bool} {v : Int} (h : cnt l D v = 0) {k : Nat} (hk : k < l.length) (hv : (eg l k).t = v) : D k = true := by
  cases hd : D k with
  | true => rfl
  | false =>
    unfold cnt at h
    rw [List.countP_eq_zero] at h
    exact absurd (by simp [hd, hv]) (h k (List.mem_range.2 hk))
theorem back_row {N : Nat} {l : List E} {xs : List Int} (ok : Ok N l) (hF : Full N l xs) (hx : xs.length < N) :
    ∀ m : Nat, ∃ L : List Int, L.length = m + 1 ∧ (∀ v ∈ L, 0 ≤ v ∧ v < N ∧ v ∉ xs) ∧ L.Pairwise (fun a b => ∃ k, Wk l (k + 1) a b)
  | 0 => by
    obtain ⟨v, h1, h2⟩ := short_miss hx
    exact ⟨[(v : Int)], rfl, fun u hu => by
      obtain rfl : u = v := by simpa using hu
      exact ⟨by omega, by omega, h2⟩, by simp⟩
  | m + 1 => by
    obtain ⟨L, h1, h2, h3⟩ := back_row ok hF hx m
    match L, h1 with
    | a :: L, h1 =>
      have ha := h2 a List.mem_cons_self
      have hr := hF.2 a
      have hc : cnt l (DX l xs) a ≠ 0 := fun h => hr ⟨ha.1, ha.2.1, ha.2.2, h⟩
      obtain ⟨k, hk, hd, ht⟩ := cnt_one hc
      have hf : (eg l k).f ∉ xs := by simpa [DX] using hd
      have hb := (ok _ (eg_mem hk)).1
      have hw : Wk l 1 (eg l k).f a := ⟨eg l k, eg_mem hk, rfl, ht⟩
      refine ⟨(eg l k).f :: a :: L, by simp at h1 ⊢; omega, fun v hv => ?_, List.pairwise_cons.2 ⟨fun b hb => ?_, h3⟩⟩
      · rcases List.mem_cons.1 hv with rfl | hv
        · exact ⟨hb.1, hb.2, hf⟩
        · exact h2 v hv
      · rcases List.mem_cons.1 hb with rfl | hb
        · exact ⟨0, hw⟩
        · obtain ⟨q, hq⟩ := (List.pairwise_cons.1 h3).1 b hb
          exact ⟨1 + q, hw.append hq⟩
theorem short_round {N : Nat} {l : List E} {xs : List Int} (ok : Ok N l) (hF : Full N l xs) (hx : xs.length < N) : ∃ x k, Wk l (k + 1) x x := by
  obtain ⟨L, h1, h2, h3⟩ := back_row ok hF hx N
  apply Classical.byContradiction
  intro hc
  have hn : L.Nodup := h3.imp (fun {a b} ⟨k, hk⟩ e => hc ⟨b, k, by rw [e] at hk; exact hk⟩)
  have := nodup_le N L hn (fun v hv => ⟨(h2 v hv).1, (h2 v hv).2.1⟩)
  omega
theorem pick_none {g : Nat → Int} : ∀ {m : Nat}, pick g m = none ↔ ∀ i, i < m → g i < 0
  | 0 => by simp [pick]
  | m + 1 => by
    have ih := pick_none (g := g) (m := m)
    cases h : pick g m with
    | none =>
      have h2 := ih.1 h
      by_cases h3 : 0 ≤ g m
      · simp only [pick, h, h3, if_true, reduceCtorEq, false_iff]
        intro hc
        have := hc m (by omega)
        omega
      · simp only [pick, h, h3, if_false, true_iff]
        intro i hi
        by_cases e : i = m
        · subst e; omega
        · exact h2 i (by omega)
    | some p =>
      have h2 : ¬ ∀ i, i < m → g i < 0 := fun hc => by rw [ih.2 hc] at h; cases h
      constructor
      · intro h3
        simp only [pick, h] at h3
        split at h3 <;> cases h3
      · intro hc
        exact absurd (fun i hi => hc i (by omega)) h2
theorem round_iff {l : List E} : pick (gap l) l.length ≠ none ↔ ∃ x k, Wk l (k + 1) x x := by
  constructor
  · intro h
    cases hp : pick (gap l) l.length with
    | none => exact absurd hp h
    | some p =>
      obtain ⟨i, k⟩ := p
      have h1 := pick_some hp
      have h2 : gap l i = dst l (eg l i).t (eg l i).f := rfl
      rcases dst_wk l (eg l i).t (eg l i).f with h3 | ⟨h3, h4⟩
      · omega
      · exact ⟨(eg l i).f, _, eg l i, eg_mem h1.1, rfl, h4⟩
  · rintro ⟨x, k, e, he, hf, hw⟩ hp
    obtain ⟨i, hi, rfl⟩ := mem_eg he
    have h1 := pick_none.1 hp i hi
    have h2 : gap l i = dst l (eg l i).t (eg l i).f := rfl
    have h3 := dst_le (show Wk l k (eg l i).t (eg l i).f by rw [hf]; exact hw)
    omega
/-- the two answers together -/
theorem tells {n : Int} {l : List E} {order round : List Int} {ok : Bool} {e f : Int} (ho : OrderS n l order e) (hr : RoundS n l round ok f) :
    (f = 2 ∧ e = 2 ∧ order = [] ∧ round = [] ∧ ok = false) ∨ (f = 0 ∧ ok = true ∧ e = 270 ∧ order = [] ∧ ∃ i k, pick (gap l) l.length = some (i, k) ∧ round = roundL l i k) ∨
      (f = 0 ∧ ok = false ∧ e = 0 ∧ round = []) := by
  rcases hr with ⟨h1, rfl, rfl, rfl⟩ | ⟨h1, rfl, h2⟩
  · rcases ho with ⟨_, rfl, rfl⟩ | ⟨g1, _⟩
    · exact .inl ⟨rfl, rfl, rfl, rfl, rfl⟩
    · rw [h1] at g1; cases g1
  · obtain ⟨N, rfl, hN, okN⟩ := right_ok h1
    rcases ho with ⟨g1, _⟩ | ⟨_, out, hF, h3⟩
    · rw [h1] at g1; cases g1
    · simp only [Int.toNat_natCast] at hF h3
      rcases h2 with ⟨hp, rfl, rfl⟩ | ⟨i, k, hp, rfl, rfl⟩
      · rcases h3 with ⟨h4, rfl, rfl⟩ | ⟨h4, rfl, rfl⟩
        · exact absurd hp (round_iff.2 (short_round okN hF h4))
        · exact .inr (.inr ⟨rfl, rfl, rfl, rfl⟩)
      · rcases h3 with ⟨h4, rfl, rfl⟩ | ⟨h4, rfl, rfl⟩
        · exact .inr (.inl ⟨rfl, rfl, rfl, rfl, i, k, hp, rfl⟩)
        · obtain ⟨x, q, hw⟩ := round_iff.1 (by rw [hp]; simp)
          have hord := hF.ord (by have := hF.1.le; omega) okN
          have hw' := hw
          obtain ⟨e, he, hf, _⟩ := hw'
          obtain ⟨j, hj, rfl⟩ := mem_eg he
          exact (hord.noround (by rw [← hf]; exact (hord.all j hj).1) hw).elim

/-! a round's edges follow one another -/
theorem tail_spec (l : List E) (s : Int) : ∀ (k : Nat) (v : Int), dst l v s = k → ∀ j, j < k → ∃ a : Nat, (tail l s k v)[j]? = some (a : Int) ∧ a < l.length ∧ (j = 0 → (eg l a).f = v) ∧ (j + 1 = k → (eg l a).t = s) ∧
      (∀ b : Nat, (tail l s k v)[j + 1]? = some (b : Int) → (eg l a).t = (eg l b).f)
  | 0, _, _, j, hj => by omega
  | k + 1, v, h, j, hj => by
    have hs := step_spec (l := l) (v := v) (s := s) (k := k) (by omega)
    have ih := tail_spec l s k _ hs.2.2.1
    cases j with
    | zero =>
      refine ⟨step l s k v, rfl, hs.1, fun _ => hs.2.1, fun hk => ?_, fun b hb => ?_⟩
      · obtain rfl : k = 0 := by omega
        rcases dst_wk l (eg l (step l s 0 v)).t s with h1 | ⟨_, h1⟩
        · omega
        · rw [show (dst l (eg l (step l s 0 v)).t s).toNat = 0 by omega] at h1
          exact h1
      · simp only [tail, List.getElem?_cons_succ] at hb
        cases k with
        | zero => simp [tail] at hb
        | succ k =>
          obtain ⟨a, h1, _, h2, _⟩ := ih 0 (by omega)
          rw [h1] at hb
          injection hb with hb
          obtain rfl : a = b := by omega
          exact (h2 rfl).symm
    | succ j =>
      obtain ⟨a, h1, h2, _, h4, h5⟩ := ih j (by omega)
      exact ⟨a, by simp only [tail, List.getElem?_cons_succ]; exact h1, h2, fun h => by omega, fun hk => h4 (by omega), fun b hb => h5 b (by simpa only [tail, List.getElem?_cons_succ] using hb)⟩
theorem round_follows {l : List E} {i : Nat} {k : Int} (hp : pick (gap l) l.length = some (i, k)) :
    0 < (roundL l i k).length ∧ ∀ j, j < (roundL l i k).length → ∃ a b : Nat, (roundL l i k)[j]? = some (a : Int) ∧ (roundL l i k)[(j + 1) % (roundL l i k).length]? = some (b : Int) ∧ a < l.length ∧ b < l.length ∧ (eg l a).t = (eg l b).f := by
  have h1 := pick_some hp
  have hg : gap l i = dst l (eg l i).t (eg l i).f := rfl
  obtain ⟨m, hm⟩ := Int.eq_ofNat_of_zero_le (show 0 ≤ k - 1 by omega)
  have hd : dst l (eg l i).t (eg l i).f = m := by omega
  have ht := tail_spec l (eg l i).f m (eg l i).t hd
  have hl := tail_len l (eg l i).f m (eg l i).t
  unfold roundL
  rw [show (k - 1).toNat = m by omega]
  refine ⟨by simp, fun j hj => ?_⟩
  simp only [List.length_cons, hl] at hj ⊢
  rcases Nat.lt_or_eq_of_le (show j ≤ m by omega) with hjm | rfl
  · rw [Nat.mod_eq_of_lt (by omega), List.getElem?_cons_succ]
    obtain ⟨b, hb1, hb2, hb3, _, _⟩ := ht j hjm
    cases j with
    | zero => exact ⟨i, b, rfl, hb1, h1.1, hb2, (hb3 rfl).symm⟩
    | succ j =>
      obtain ⟨a, ha1, ha2, _, _, ha5⟩ := ht j (by omega)
      exact ⟨a, b, by rw [List.getElem?_cons_succ]; exact ha1, hb1, ha2, hb2, ha5 b hb1⟩
  · rw [Nat.mod_self]
    cases j with
    | zero =>
      refine ⟨i, i, rfl, rfl, h1.1, h1.1, ?_⟩
      rcases dst_wk l (eg l i).t (eg l i).f with h3 | ⟨_, h3⟩
      · omega
      · rw [hd] at h3
        exact h3
    | succ j =>
      obtain ⟨a, ha1, ha2, _, ha4, _⟩ := ht j (by omega)
      exact ⟨a, i, by rw [List.getElem?_cons_succ]; exact ha1, rfl, ha2, h1.1, ha4 rfl⟩

/-! the order keeps all edges -/
theorem Ord.lt {l : List E} {xs : List Int} (h : Ord l xs) {i : Nat} (hi : i < l.length) : xs.idxOf (eg l i).f < xs.idxOf (eg l i).t := by
  obtain ⟨pre, suf, he⟩ := List.append_of_mem (h.all i hi).1
  have h1 := h.next pre _ suf he i hi rfl
  have hn := h.nd
  rw [he] at hn
  have hn1 := List.nodup_append.1 hn
  have hn2 := List.nodup_cons.1 hn1.2.1
  have e1 : (eg l i).f ∉ pre := fun hm => hn1.2.2 _ hm _ List.mem_cons_self rfl
  have e2 : (eg l i).t ∉ pre := fun hm => hn1.2.2 _ hm _ (List.mem_cons_of_mem _ h1) rfl
  rw [he, List.idxOf_append, if_neg e1, List.idxOf_append, if_neg e2]
  have e3 : (eg l i).t ≠ (eg l i).f := fun e => hn2.1 (e ▸ h1)
  have e4 : ((eg l i).f == (eg l i).t) = false := by simpa using fun e => e3 e.symm
  rw [List.idxOf_cons_self, List.idxOf_cons, e4, cond_false]
  omega
theorem keeps_true {N : Nat} {l : List E} {xs : List Int} {b : Bool} (hF : Full N l xs) (hx : xs.length = N) (ok : Ok N l) (hk : KeepsS N xs l b) (hr : rightB N l = true) : b = true := by
  have ho := hF.ord hx ok
  have hn := hF.1.nodup
  refine hk.unique (.inr (.inr ⟨hr, by omega, .inr ⟨?_, ?_⟩⟩))
  · intro j hj
    simp only [Int.toNat_natCast] at hj
    have hjx : j < xs.length := by omega
    have e : nth xs j = xs[j] := by simp [nth, List.getD, hjx]
    rw [e]
    have hm := hn.2 _ (List.getElem_mem hjx)
    refine ⟨hm.1, by simpa using hm.2, fun hc => ?_⟩
    obtain ⟨q, hq, he⟩ := List.mem_iff_getElem.1 hc
    rw [List.getElem_take] at he
    have hqj : q < j := by simp at hq; omega
    exact List.pairwise_iff_getElem.1 hn.1 q j (by omega) hjx hqj he
  · symm
    rw [Bool.not_eq_true', List.any_eq_false]
    intro e he
    obtain ⟨i, hi, rfl⟩ := mem_eg he
    have h1 := ok _ (eg_mem hi)
    have h2 := ho.lt hi
    have h3 := ho.all i hi
    simp only [bad, Int.toNat_natCast, decide_eq_true_eq]
    have ef : (((eg l i).f.toNat : Nat) : Int) = (eg l i).f := by omega
    have et : (((eg l i).t.toNat : Nat) : Int) = (eg l i).t := by omega
    rw [plc_nth (by omega), plc_nth (by omega), ef, et, List.take_of_length_le (by omega), if_pos h3.1, if_pos h3.2]
    omega

/-! side by side -/
theorem beside {N : Nat} {l : List E} {xs : List Int} (hF : Full N l xs) {i : Nat} (hi : i + 1 < xs.length) : xs[i] < xs[i + 1] ∨ ∃ k, k < l.length ∧ (eg l k).f = xs[i] ∧ (eg l k).t = xs[i + 1] := by
  have hn := hF.1.nodup
  obtain ⟨_, h1, h2⟩ := hF.1.pre i (by omega)
  obtain ⟨_, h3, _⟩ := hF.1.pre (i + 1) hi
  have hne := List.pairwise_iff_getElem.1 hn.1 i (i + 1) (by omega) hi (by omega)
  by_cases hlt : xs[i] < xs[i + 1]
  · exact .inl hlt
  · right
    have h4 : ¬ rdy N l (xs.take i) xs[i + 1] := fun h => by have := h2 _ h; omega
    have h5 : xs.take (i + 1) = xs.take i ++ [xs[i]] := by
      rw [List.take_add_one, List.getElem?_eq_getElem (by omega)]
      rfl
    have h6 : xs[i + 1] ∉ xs.take i := fun hm => h3.2.2.1 (by rw [h5]; exact List.mem_append_left _ hm)
    have h7 : cnt l (DX l (xs.take i)) xs[i + 1] ≠ 0 := fun h => h4 ⟨h3.1, h3.2.1, h6, h⟩
    obtain ⟨k, hk, hd, ht⟩ := cnt_one h7
    have h8 := cnt_none h3.2.2.2 hk ht
    refine ⟨k, hk, ?_, ht⟩
    have h9 : (eg l k).f ∉ xs.take i := by simpa [DX] using hd
    have h10 : (eg l k).f ∈ xs.take (i + 1) := by simpa only [DX, decide_eq_true_eq] using h8
    rw [h5, List.mem_append] at h10
    rcases h10 with h10 | h10
    · exact absurd h10 h9
    · simpa using h10

/-! the needed edges alone reach as far -/
def fewL (l : List E) (xs : List Int) : List E := xs.map fun i => eg l i.toNat
theorem mem_ndL {l : List E} {i : Int} : i ∈ ndL l l.length ↔ ∃ j : Nat, i = j ∧ j < l.length ∧ ndl l j := by
  unfold ndL
  simp only [List.mem_map, List.mem_filter, List.mem_range, decide_eq_true_eq]
  constructor
  · rintro ⟨j, ⟨h1, h2⟩, rfl⟩; exact ⟨j, rfl, h1, h2⟩
  · rintro ⟨j, rfl, h1, h2⟩; exact ⟨j, ⟨h1, h2⟩, rfl⟩
theorem few_mem {l : List E} {e : E} (h : e ∈ fewL l (ndL l l.length)) : e ∈ l := by
  obtain ⟨i, hi, rfl⟩ := List.mem_map.1 h
  obtain ⟨j, rfl, hj, _⟩ := mem_ndL.1 hi
  exact eg_mem hj
theorem Wk.sub {l m : List E} (h : ∀ e ∈ l, e ∈ m) : ∀ {k : Nat} {a b : Int}, Wk l k a b → Wk m k a b
  | 0, _, _, hw => hw
  | _ + 1, _, _, ⟨e, he, hf, hw⟩ => ⟨e, h e he, hf, hw.sub h⟩
theorem Ord.wk_lt {l : List E} {xs : List Int} (h : Ord l xs) : ∀ {k : Nat} {a b : Int}, Wk l (k + 1) a b → xs.idxOf a < xs.idxOf b
  | 0, a, b, ⟨e, he, hf, hw⟩ => by
    obtain ⟨i, hi, rfl⟩ := mem_eg he
    have hw : (eg l i).t = b := hw
    have := h.lt hi
    rw [hf, hw] at this
    exact this
  | k + 1, a, b, ⟨e, he, hf, hw⟩ => by
    obtain ⟨i, hi, rfl⟩ := mem_eg he
    have h1 := h.lt hi
    have h2 := h.wk_lt hw
    rw [hf] at h1
    omega
theorem least_like {l : List E} (i : Nat) (hi : i < l.length) : ∃ j, j < l.length ∧ (eg l j).f = (eg l i).f ∧ (eg l j).t = (eg l i).t ∧ ∀ k, k < j → ¬ ((eg l k).f = (eg l j).f ∧ (eg l k).t = (eg l j).t) := by
  induction i using Nat.strongRecOn with
  | ind i ih =>
    by_cases h : ∃ k, k < i ∧ (eg l k).f = (eg l i).f ∧ (eg l k).t = (eg l i).t
    · obtain ⟨k, h1, h2, h3⟩ := h
      obtain ⟨j, g1, g2, g3, g4⟩ := ih k h1 (by omega)
      exact ⟨j, g1, by rw [g2, h2], by rw [g3, h3], g4⟩
    · exact ⟨i, hi, rfl, rfl, fun k hk hc => h ⟨k, hk, hc⟩⟩
theorem few_wk {l : List E} {xs : List Int} (h : Ord l xs) : ∀ (m k : Nat) (a b : Int), xs.idxOf b - xs.idxOf a ≤ m → Wk l k a b → ∃ q, Wk (fewL l (ndL l l.length)) q a b
  | _, 0, a, b, _, hw => ⟨0, hw⟩
  | 0, k + 1, a, b, hm, hw => by
    have := h.wk_lt hw
    omega
  | m + 1, k + 1, a, b, hm, hw => by
    have hab := h.wk_lt hw
    have hw0 := hw
    obtain ⟨e, he, hf, hw1⟩ := hw
    obtain ⟨i, hi, rfl⟩ := mem_eg he
    cases k with
    | succ _ =>
      have h1 := h.lt hi
      have h2 := h.wk_lt hw1
      rw [hf] at h1
      obtain ⟨p, hp⟩ := few_wk h m 1 a (eg l i).t (by omega) ⟨eg l i, he, hf, rfl⟩
      obtain ⟨q, hq⟩ := few_wk h m _ (eg l i).t b (by omega) hw1
      exact ⟨p + q, hp.append hq⟩
    | zero =>
      have hw1 : (eg l i).t = b := hw1
      obtain ⟨j, hj, hjf, hjt, hjn⟩ := least_like i hi
      by_cases hn : ndl l j
      · exact ⟨1, eg l j, List.mem_map.2 ⟨(j : Int), mem_ndL.2 ⟨j, rfl, hj, hn⟩, rfl⟩, by rw [hjf, hf], by rw [hjt, hw1]; rfl⟩
      · have : ∃ p, p < l.length ∧ (eg l p).f = (eg l j).f ∧ (eg l p).t ≠ (eg l j).t ∧ ∃ q, Wk l q (eg l p).t (eg l j).t := by
          apply Classical.byContradiction
          intro hc
          exact hn ⟨hjn, fun p hp hpf hpt hq => hc ⟨p, hp, hpf, hpt, hq⟩⟩
        obtain ⟨p, hp, hpf, hpt, q, hq⟩ := this
        rw [hjt, hw1] at hpt hq
        rw [hjf, hf] at hpf
        cases q with
        | zero => exact absurd hq hpt
        | succ q =>
          have h1 := h.lt hp
          have h2 := h.wk_lt hq
          rw [hpf] at h1
          obtain ⟨c, hc⟩ := few_wk h m 1 a (eg l p).t (by omega) ⟨eg l p, eg_mem hp, hpf, rfl⟩
          obtain ⟨d, hd⟩ := few_wk h m (q + 1) (eg l p).t b (by omega) hq
          exact ⟨c + d, hc.append hd⟩
theorem at_iff {n σ : Int} {l : List E} {d : List Int} (h : IsDist n l σ d) {v : Int} (h0 : 0 ≤ v) (h1 : v < n) : 0 ≤ at_ d v ↔ ∃ k, Wk l k σ v := by
  constructor
  · intro hv
    rcases h.wk v h0 h1 with h2 | ⟨_, h2⟩
    · omega
    · exact ⟨_, h2⟩
  · rintro ⟨k, hk⟩
    exact (h.reach hk).1
theorem few_reach {n σ : Int} {l : List E} {order xs ys : List Int} {e f : Int} (ho : OrderS n l order 0) (h0 : 0 ≤ σ) (h1 : σ < n) (hx : ReachS n σ l xs e) (hy : ReachS n σ (fewL l (ndL l l.length)) ys f) : xs = ys := by
  obtain ⟨N, rfl, hN, ok, hF, hlen⟩ := ho.whole
  have hord := hF.ord hlen ok
  have hr : rightB (N : Int) l = true := by
    rcases ho with ⟨_, _, h⟩ | ⟨h, _⟩
    · omega
    · exact h
  have hr2 : rightB (N : Int) (fewL l (ndL l l.length)) = true := by
    simp only [rightB, Bool.and_eq_true, List.all_eq_true] at hr ⊢
    exact ⟨fun e he => hr.1 e (few_mem he), hr.2⟩
  rcases hx with ⟨hx, _⟩ | ⟨_, _, _, _, d, hd, rfl⟩
  · rw [hr] at hx
    rcases hx with hx | hx | hx
    · cases hx
    · omega
    · omega
  · rcases hy with ⟨hy, _⟩ | ⟨_, _, _, _, d', hd', rfl⟩
    · rw [hr2] at hy
      rcases hy with hy | hy | hy
      · cases hy
      · omega
      · omega
    · unfold reachL
      congr 1
      apply List.filter_congr
      intro v hv
      have hvN : (v : Int) < N := by
        have := List.mem_range.1 hv
        simp at this
        omega
      rw [decide_eq_decide, at_iff hd (by omega) hvN, at_iff hd' (by omega) hvN]
      constructor
      · rintro ⟨k, hk⟩
        exact few_wk hord _ k σ v (Nat.le_refl _) hk
      · rintro ⟨k, hk⟩
        exact ⟨k, hk.sub fun e he => few_mem he⟩
end Go.Proofs.Ytjifpjfinffamaa
