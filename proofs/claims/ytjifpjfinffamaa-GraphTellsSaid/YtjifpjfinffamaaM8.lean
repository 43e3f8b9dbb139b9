/- Plain math: the needed edges, as the document has them, are those that graph.Needed finds. -/
import Derived.Test.YtjifpjfinffamaaM5
import Derived.Test.YtjifpjfinffamaaM7
import Derived.Test.YtjifpjfinffamaaSR
import Derived.Test.YtjifpjfinffamaaN1
namespace Go.Proofs.Ytjifpjfinffamaa
open Go.RowKit

theorem mem_eg {l : List E} {e : E} (h : e ∈ l) : ∃ i, i < l.length ∧ eg l i = e := by
  obtain ⟨i, hi, rfl⟩ := List.mem_iff_getElem.1 h
  exact ⟨i, hi, by simp [eg, List.getD, hi]⟩
/-- edge i is needed: no edge of a lesser number is like it, and no way leads there over another node -/
def ndl (l : List E) (i : Nat) : Prop :=
  (∀ k, k < i → ¬ ((eg l k).f = (eg l i).f ∧ (eg l k).t = (eg l i).t)) ∧ ∀ j, j < l.length → (eg l j).f = (eg l i).f → (eg l j).t ≠ (eg l i).t → ¬ ∃ k, Wk l k (eg l j).t (eg l i).t
open Classical in
noncomputable def ndL (l : List E) (k : Nat) : List Int := ((List.range k).filter fun i => decide (ndl l i)).map Int.ofNat
theorem ndL_hit {l : List E} {k : Nat} (h : ndl l k) : ndL l (k + 1) = ndL l k ++ [(k : Int)] := by
  simp [ndL, List.range_succ, h]
theorem ndL_miss {l : List E} {k : Nat} (h : ¬ ndl l k) : ndL l (k + 1) = ndL l k := by
  simp [ndL, List.range_succ, h]
theorem ndL_len (l : List E) (k : Nat) : (ndL l k).length ≤ k := by
  unfold ndL
  rw [List.length_map]
  have := List.length_filter_le (fun i => @decide (ndl l i) (Classical.propDecidable _)) (List.range k)
  simpa using this

/-- the nodes behind one in a list that stands in full: all that its edges lead to -/
structure Ord (l : List E) (xs : List Int) : Prop where
  nd : xs.Nodup
  all : ∀ i, i < l.length → (eg l i).f ∈ xs ∧ (eg l i).t ∈ xs
  next : ∀ pre x suf, xs = pre ++ x :: suf → ∀ i, i < l.length → (eg l i).f = x → (eg l i).t ∈ suf
theorem full_mem {N : Nat} {xs : List Int} (hn : xs.Nodup) (hb : ∀ v ∈ xs, 0 ≤ v ∧ v < N) (hx : xs.length = N) {v : Int} (h0 : 0 ≤ v) (h1 : v < N) : v ∈ xs := by
  by_cases h : v ∈ xs
  · exact h
  · have := nodup_le N (v :: xs) (List.nodup_cons.2 ⟨h, hn⟩) (fun u hu => by
      rcases List.mem_cons.1 hu with rfl | hu
      · exact ⟨h0, h1⟩
      · exact hb u hu)
    simp at this
    omega
theorem nodup_inj {xs : List Int} (hn : xs.Nodup) {i j : Nat} {x : Int} (hi : xs[i]? = some x) (hj : xs[j]? = some x) : i = j := by
  obtain ⟨h1, e1⟩ := List.getElem?_eq_some_iff.1 hi
  obtain ⟨h2, e2⟩ := List.getElem?_eq_some_iff.1 hj
  have hp := List.pairwise_iff_getElem.1 hn
  rcases Nat.lt_trichotomy i j with h | h | h
  · exact absurd (e1.trans e2.symm) (hp i j h1 h2 h)
  · exact h
  · exact absurd (e2.trans e1.symm) (hp j i h2 h1 h)
theorem Full.ord {N : Nat} {l : List E} {xs : List Int} (hF : Full N l xs) (hx : xs.length = N) (ok : Ok N l) : Ord l xs := by
  obtain ⟨hn, hb⟩ := hF.1.nodup
  have hall : ∀ i, i < l.length → (eg l i).f ∈ xs ∧ (eg l i).t ∈ xs := fun i hi => by
    have := ok _ (eg_mem hi)
    exact ⟨full_mem hn hb hx this.1.1 this.1.2, full_mem hn hb hx this.2.1 this.2.2⟩
  refine ⟨hn, hall, fun pre x suf he i hi hf => ?_⟩
  obtain ⟨k, hk, hkt⟩ := List.mem_iff_getElem.1 (hall i hi).2
  have hr := (hF.1.pre k hk).2.1
  have h0 := hr.2.2.2
  rw [hkt] at h0
  unfold cnt at h0
  rw [List.countP_eq_zero] at h0
  have h1 := h0 i (List.mem_range.2 hi)
  have hmem : (eg l i).f ∈ xs.take k := by
    simpa [DX] using h1
  rw [hf] at hmem
  obtain ⟨p, hp, hpx⟩ := List.mem_iff_getElem.1 hmem
  have hpk : p < k := by simp at hp; omega
  rw [List.getElem_take] at hpx
  have e1 : xs[p]? = some x := by rw [← hpx]; exact List.getElem?_eq_getElem _
  have e2 : xs[pre.length]? = some x := by rw [he]; simp
  have hpp := nodup_inj hn e1 e2
  rw [← hkt]
  obtain ⟨z, hz⟩ : ∃ z, xs[k] = z := ⟨_, rfl⟩
  have e3 : xs[k]? = some z := by rw [← hz]; exact List.getElem?_eq_getElem _
  rw [hz]
  clear hz hkt
  rw [he, List.getElem?_append_right (by omega), show k - pre.length = (k - pre.length - 1) + 1 from by omega, List.getElem?_cons_succ] at e3
  exact List.mem_of_getElem? e3
theorem Ord.closed {l : List E} {xs : List Int} (h : Ord l xs) {pre s : List Int} (he : xs = pre ++ s) : ∀ {k : Nat} {y z : Int}, y ∈ s → Wk l k y z → z ∈ s
  | 0, y, z, hy, hw => by
    have : y = z := hw
    exact this ▸ hy
  | k + 1, y, z, hy, hw => by
    obtain ⟨e, hel, hf, hw⟩ := hw
    obtain ⟨i, hi, rfl⟩ := mem_eg hel
    obtain ⟨a, b, rfl⟩ := List.append_of_mem hy
    have := h.next (pre ++ a) y b (by rw [he]; simp) i hi hf
    exact h.closed he (List.mem_append_right _ (List.mem_cons_of_mem _ this)) hw
theorem Ord.behind {l : List E} {xs : List Int} (h : Ord l xs) {pre suf : List Int} {x z : Int} (he : xs = pre ++ x :: suf) {k : Nat} (hw : Wk l (k + 1) x z) : z ∈ suf := by
  obtain ⟨e, hel, hf, hw⟩ := hw
  obtain ⟨i, hi, rfl⟩ := mem_eg hel
  exact h.closed (pre := pre ++ [x]) (by rw [he]; simp) (h.next pre x suf he i hi hf) hw
theorem Ord.noround {l : List E} {xs : List Int} (h : Ord l xs) {x : Int} (hx : x ∈ xs) {k : Nat} (hw : Wk l (k + 1) x x) : False := by
  obtain ⟨pre, suf, rfl⟩ := List.append_of_mem hx
  have h1 := h.behind rfl hw
  have h2 := (List.nodup_append.1 h.nd).2.1
  exact (List.nodup_cons.1 h2).1 h1

theorem mem_row {l : List E} {x : Nat} {i : Int} : i ∈ outRow l x l.length ↔ ∃ j : Nat, i = j ∧ j < l.length ∧ (eg l j).f = x := by
  unfold outRow
  simp only [List.mem_map, List.mem_filter, List.mem_range, decide_eq_true_eq]
  constructor
  · rintro ⟨j, ⟨h1, h2⟩, rfl⟩; exact ⟨j, rfl, h1, h2⟩
  · rintro ⟨j, rfl, h1, h2⟩; exact ⟨j, ⟨h1, h2⟩, rfl⟩
theorem mem_take_lt {xs : List Int} (hs : xs.Pairwise (· < ·)) {p : Nat} {x a : Int} (hp : xs[p]? = some x) : a ∈ xs.take p ↔ a ∈ xs ∧ a < x := by
  obtain ⟨h1, e1⟩ := List.getElem?_eq_some_iff.1 hp
  have hq := List.pairwise_iff_getElem.1 hs
  constructor
  · intro h
    obtain ⟨q, hq1, rfl⟩ := List.mem_iff_getElem.1 h
    have hqp : q < p := by simp at hq1; omega
    rw [List.getElem_take]
    exact ⟨List.getElem_mem _, e1 ▸ hq q p (by omega) h1 hqp⟩
  · rintro ⟨h, hlt⟩
    obtain ⟨q, hq1, rfl⟩ := List.mem_iff_getElem.1 h
    have hqp : q < p := by
      rcases Nat.lt_trichotomy q p with h | h | h
      · exact h
      · subst h; omega
      · have := hq p q h1 hq1 h; omega
    exact List.mem_iff_getElem.2 ⟨q, by simp; omega, by rw [List.getElem_take]⟩
theorem ndR_iff {l : List E} {b : Nat → Bool} {row : List Int} {i : Int} : ∀ {q : Nat}, i ∈ ndR l b row q ↔ ∃ p, p < q ∧ row[p]? = some i ∧ nxB l (row.take p) (tg l i) = false ∧ b (tg l i) = false
  | 0 => by simp [ndR]
  | q + 1 => by
    rw [ndR, List.mem_append, ndR_iff]
    constructor
    · rintro (⟨p, h1, h2⟩ | h)
      · exact ⟨p, by omega, h2⟩
      · cases hr : row[q]? with
        | none => rw [hr] at h; simp at h
        | some k =>
          rw [hr] at h
          simp only at h
          split at h
          · rename_i hc
            obtain rfl : i = k := by simpa using h
            exact ⟨q, by omega, hr, hc⟩
          · simp at h
    · rintro ⟨p, h1, h2, h3⟩
      rcases Nat.lt_or_eq_of_le (Nat.lt_succ_iff.1 h1) with h | rfl
      · exact .inl ⟨p, h, h2, h3⟩
      · right
        rw [h2]
        simp [h3.1, h3.2]

/-- the nodes of suf are done, from the last one on -/
structure Nv (l : List E) (suf : List Int) (s : St) : Prop where
  rc : ∀ y : Nat, (s.rc y = none ∧ ((y : Int) ∉ suf ∨ ∀ i, i < l.length → (eg l i).f ≠ y)) ∨ ((y : Int) ∈ suf ∧ ∃ S, s.rc y = some S ∧ ∀ j : Nat, S j = true ↔ ∃ k, Wk l (k + 1) y j)
  mem : ∀ i : Int, i ∈ s.nd ↔ ∃ j : Nat, i = j ∧ j < l.length ∧ (eg l j).f ∈ suf ∧ ndl l j
  nodup : s.nd.Nodup
theorem Nv.start (l : List E) : Nv l [] st0 := ⟨fun y => .inl ⟨rfl, .inl (by simp)⟩, fun i => by simp [st0], by simp [st0]⟩
theorem tg_eq {N : Nat} {l : List E} (ok : Ok N l) {j : Nat} (hj : j < l.length) : ((tg l (j : Int) : Nat) : Int) = (eg l j).t := by
  have := (ok _ (eg_mem hj)).2.1
  simp only [tg, Int.toNat_natCast]
  omega
theorem Nv.step {N : Nat} {l : List E} {xs pre suf : List Int} {s : St} {x : Nat} (ok : Ok N l) (ho : Ord l xs) (he : xs = pre ++ (x : Int) :: suf) (h : Nv l suf s) : Nv l ((x : Int) :: suf) (stp l s x) := by
  have hxs : (x : Int) ∉ suf := by
    have h2 := ho.nd
    rw [he] at h2
    exact (List.nodup_cons.1 (List.nodup_append.1 h2).2.1).1
  unfold stp
  split
  · rename_i h0
    have hno : ∀ i, i < l.length → (eg l i).f ≠ x := fun i hi hf => by
      have : (i : Int) ∈ outRow l x l.length := mem_row.2 ⟨i, rfl, hi, hf⟩
      rw [List.eq_nil_of_length_eq_zero h0] at this
      simp at this
    refine ⟨fun y => ?_, fun i => ?_, h.nodup⟩
    · by_cases hyx : y = x
      · subst hyx
        rcases h.rc y with ⟨h1, _⟩ | ⟨h1, _⟩
        · exact .inl ⟨h1, .inr hno⟩
        · exact absurd h1 hxs
      · rcases h.rc y with ⟨h1, h2⟩ | ⟨h1, h2⟩
        · refine .inl ⟨h1, h2.imp (fun h3 h4 => ?_) id⟩
          rcases List.mem_cons.1 h4 with h5 | h5
          · exact hyx (by omega)
          · exact h3 h5
        · exact .inr ⟨List.mem_cons_of_mem _ h1, h2⟩
    · rw [h.mem]
      constructor
      · rintro ⟨j, h1, h2, h3, h4⟩; exact ⟨j, h1, h2, List.mem_cons_of_mem _ h3, h4⟩
      · rintro ⟨j, h1, h2, h3, h4⟩
        rcases List.mem_cons.1 h3 with h5 | h5
        · exact absurd h5 (hno j h2)
        · exact ⟨j, h1, h2, h5, h4⟩
  · have hbey : ∀ j : Nat, beyB l s.rc (outRow l x l.length) j = true ↔ ∃ i, i < l.length ∧ (eg l i).f = x ∧ ∃ k, Wk l (k + 1) (eg l i).t j := by
      intro j
      unfold beyB
      rw [List.any_eq_true]
      constructor
      · rintro ⟨i, hi, hm⟩
        obtain ⟨i, rfl, hil, hif⟩ := mem_row.1 hi
        refine ⟨i, hil, hif, ?_⟩
        rcases h.rc (tg l (i : Int)) with ⟨h1, _⟩ | ⟨_, S, h1, h2⟩
        · rw [h1] at hm; cases hm
        · rw [h1] at hm
          have := (h2 j).1 hm
          rwa [tg_eq ok hil] at this
      · rintro ⟨i, hil, hif, k, hw⟩
        refine ⟨(i : Int), mem_row.2 ⟨i, rfl, hil, hif⟩, ?_⟩
        have hts := ho.next pre x suf he i hil hif
        rw [← tg_eq ok hil] at hts hw
        rcases h.rc (tg l (i : Int)) with ⟨_, h1 | h1⟩ | ⟨_, S, h1, h2⟩
        · exact absurd hts h1
        · obtain ⟨e, hel, hf, _⟩ := hw
          obtain ⟨q, hq, rfl⟩ := mem_eg hel
          exact absurd hf (h1 q hq)
        · rw [h1]
          exact (h2 j).2 ⟨k, hw⟩
    have hnx : ∀ j : Nat, nxB l (outRow l x l.length) j = true ↔ ∃ i, i < l.length ∧ (eg l i).f = x ∧ (eg l i).t = j := by
      intro j
      unfold nxB
      rw [List.any_eq_true]
      constructor
      · rintro ⟨i, hi, hm⟩
        obtain ⟨i, rfl, hil, hif⟩ := mem_row.1 hi
        have := of_decide_eq_true hm
        exact ⟨i, hil, hif, by rw [← tg_eq ok hil, this]⟩
      · rintro ⟨i, hil, hif, ht⟩
        refine ⟨(i : Int), mem_row.2 ⟨i, rfl, hil, hif⟩, ?_⟩
        rw [← tg_eq ok hil] at ht
        exact decide_eq_true (by omega)
    have hndR : ∀ i : Int, i ∈ ndR l (beyB l s.rc (outRow l x l.length)) (outRow l x l.length) (outRow l x l.length).length ↔ ∃ j : Nat, i = j ∧ j < l.length ∧ (eg l j).f = x ∧ ndl l j := by
      intro i
      rw [ndR_iff]
      constructor
      · rintro ⟨p, hp, hpi, h1, h2⟩
        obtain ⟨j, rfl, hjl, hjf⟩ := mem_row.1 (List.mem_of_getElem? hpi)
        refine ⟨j, rfl, hjl, hjf, fun k hk hc => ?_, fun k hk hkf hkt hw => ?_⟩
        · have hkm : (k : Int) ∈ (outRow l x l.length).take p := (mem_take_lt (outRow_sorted l x _) hpi).2 ⟨mem_row.2 ⟨k, rfl, by omega, by rw [hc.1, hjf]⟩, by omega⟩
          unfold nxB at h1
          rw [List.any_eq_false] at h1
          have := h1 _ hkm
          have e1 := tg_eq ok (j := k) (by omega)
          have e2 := tg_eq ok hjl
          simp only [decide_eq_true_eq] at this
          have := hc.2
          omega
        · obtain ⟨q, hw⟩ := hw
          have hq : ∃ q', q = q' + 1 := by
            cases q with
            | zero => exact absurd hw hkt
            | succ q => exact ⟨q, rfl⟩
          obtain ⟨q', rfl⟩ := hq
          have : beyB l s.rc (outRow l x l.length) (tg l (j : Int)) = true := (hbey _).2 ⟨k, hk, by rw [hkf, hjf], q', by rw [tg_eq ok hjl]; exact hw⟩
          rw [this] at h2
          cases h2
      · rintro ⟨j, rfl, hjl, hjf, hn1, hn2⟩
        obtain ⟨p, hp, hpj⟩ := List.mem_iff_getElem.1 (mem_row.2 ⟨j, rfl, hjl, hjf⟩)
        have hpi : (outRow l x l.length)[p]? = some (j : Int) := by rw [← hpj]; exact List.getElem?_eq_getElem _
        refine ⟨p, hp, hpi, ?_, ?_⟩
        · unfold nxB
          rw [List.any_eq_false]
          intro a ha
          obtain ⟨ha1, ha2⟩ := (mem_take_lt (outRow_sorted l x _) hpi).1 ha
          obtain ⟨k, rfl, hkl, hkf⟩ := mem_row.1 ha1
          have := hn1 k (by omega)
          have e1 := tg_eq ok hkl
          have e2 := tg_eq ok hjl
          simp only [decide_eq_true_eq]
          intro hc
          exact this ⟨by rw [hkf, hjf], by rw [← e1, ← e2, hc]⟩
        · rw [Bool.eq_false_iff]
          intro hb
          obtain ⟨k, hk, hkf, q, hw⟩ := (hbey _).1 hb
          rw [tg_eq ok hjl] at hw
          by_cases hkt : (eg l k).t = (eg l j).t
          · rw [hkt] at hw
            exact ho.noround (ho.all j hjl).2 hw
          · exact hn2 k hk (by rw [hkf, hjf]) hkt ⟨_, hw⟩
    refine ⟨fun y => ?_, fun i => ?_, ?_⟩
    · by_cases hyx : y = x
      · subst hyx
        refine .inr ⟨List.mem_cons_self, _, if_pos rfl, fun j => ?_⟩
        rw [Bool.or_eq_true, hnx, hbey]
        constructor
        · rintro (⟨i, h1, h2, h3⟩ | ⟨i, h1, h2, k, h3⟩)
          · exact ⟨0, eg l i, eg_mem h1, h2, h3⟩
          · exact ⟨k + 1, eg l i, eg_mem h1, h2, h3⟩
        · rintro ⟨k, e, hel, hf, hw⟩
          obtain ⟨i, hi, rfl⟩ := mem_eg hel
          cases k with
          | zero => exact .inl ⟨i, hi, hf, hw⟩
          | succ k => exact .inr ⟨i, hi, hf, k, hw⟩
      · simp only [hyx, if_false]
        rcases h.rc y with ⟨h1, h2⟩ | ⟨h1, h2⟩
        · refine .inl ⟨h1, h2.imp (fun h3 h4 => ?_) id⟩
          rcases List.mem_cons.1 h4 with h5 | h5
          · exact hyx (by omega)
          · exact h3 h5
        · exact .inr ⟨List.mem_cons_of_mem _ h1, h2⟩
    · simp only
      rw [List.mem_append, h.mem, hndR]
      constructor
      · rintro (⟨j, h1, h2, h3, h4⟩ | ⟨j, h1, h2, h3, h4⟩)
        · exact ⟨j, h1, h2, List.mem_cons_of_mem _ h3, h4⟩
        · exact ⟨j, h1, h2, by rw [h3]; exact List.mem_cons_self, h4⟩
      · rintro ⟨j, h1, h2, h3, h4⟩
        rcases List.mem_cons.1 h3 with h5 | h5
        · exact .inr ⟨j, h1, h2, h5, h4⟩
        · exact .inl ⟨j, h1, h2, h5, h4⟩
    · simp only
      rw [List.nodup_append]
      refine ⟨h.nodup, ?_, ?_⟩
      · have := ndR_nodup (l := l) (b := beyB l s.rc (outRow l x l.length)) (row := outRow l x l.length) (outRow l x l.length).length
        exact (List.pairwise_map.1 this).imp (fun h e => h (by rw [e]))
      · rintro a ha b hb rfl
        obtain ⟨j, rfl, _, h3, _⟩ := (h.mem a).1 ha
        obtain ⟨j', h1, _, h4, _⟩ := (hndR _).1 hb
        have : j' = j := by omega
        subst this
        rw [h4] at h3
        exact hxs h3
theorem Nv.fold {N : Nat} {l : List E} {xs : List Int} (ok : Ok N l) (ho : Ord l xs) (hb : ∀ v ∈ xs, 0 ≤ v) : ∀ (suf pre : List Int), xs = pre ++ suf → Nv l suf ((suf.reverse.map Int.toNat).foldl (stp l) st0)
  | [], _, _ => Nv.start l
  | x :: suf, pre, he => by
    have ih := Nv.fold ok ho hb suf (pre ++ [x]) (by rw [he]; simp)
    obtain ⟨x, rfl⟩ := Int.eq_ofNat_of_zero_le (hb x (by rw [he]; simp))
    rw [List.reverse_cons, List.map_append, List.foldl_append]
    exact Nv.step ok ho he ih
theorem nd_same {N : Nat} {l : List E} {xs : List Int} (hF : Full N l xs) (hx : xs.length = N) (ok : Ok N l) : srt ((xs.reverse.map Int.toNat).foldl (stp l) st0).nd = ndL l l.length := by
  have ho := hF.ord hx ok
  have hv := Nv.fold ok ho (fun v hv => (hF.1.nodup.2 v hv).1) xs [] rfl
  generalize (xs.reverse.map Int.toNat).foldl (stp l) st0 = s at hv ⊢
  have hs : (ndL l l.length).Pairwise (· < ·) := by
    unfold ndL
    rw [List.pairwise_map]
    exact (List.pairwise_lt_range.filter _).imp (fun h => by simpa using h)
  have hn : (ndL l l.length).Nodup := hs.imp (fun h => by omega)
  have hm : ∀ i, i ∈ s.nd ↔ i ∈ ndL l l.length := by
    intro i
    rw [hv.mem]
    unfold ndL
    simp only [List.mem_map, List.mem_filter, List.mem_range, decide_eq_true_eq]
    constructor
    · rintro ⟨j, rfl, h1, _, h2⟩; exact ⟨j, ⟨h1, h2⟩, rfl⟩
    · rintro ⟨j, ⟨h1, h2⟩, rfl⟩; exact ⟨j, rfl, h1, (ho.all j h1).1, h2⟩
  have hp : s.nd.Perm (ndL l l.length) := by
    rw [List.perm_iff_count]
    intro a
    rw [hv.nodup.count, hn.count]
    by_cases h : a ∈ s.nd
    · rw [if_pos h, if_pos ((hm a).1 h)]
    · rw [if_neg h, if_neg (fun h' => h ((hm a).2 h'))]
  exact List.Perm.eq_of_pairwise (le := (· ≤ ·)) (fun a b _ _ h1 h2 => Int.le_antisymm h1 h2) (srt_sorted s.nd) (hs.imp (fun h => by omega)) ((srt_perm s.nd).trans hp)
/-- what the document's Needed answers -/
def NeedS (n : Int) (l : List E) (xs : List Int) (er : Int) : Prop :=
  (er ≠ 0 ∧ OrderS n l [] er ∧ xs = []) ∨ (er = 0 ∧ ∃ order, OrderS n l order 0 ∧ xs = ndL l l.length)
theorem NeedW.same {n : Int} {l : List E} {xs : List Int} {er : Int} (h : NeedW n l xs er) : NeedS n l xs er := by
  rcases h with h | ⟨h1, o, h2, rfl⟩
  · exact .inl h
  · obtain ⟨N, rfl, _, ok, hF, hx⟩ := h2.whole
    exact .inr ⟨h1, o, h2, nd_same hF hx ok⟩
theorem NeedS.unique {n : Int} {l : List E} {xs ys : List Int} {e f : Int} (h : NeedS n l xs e) (h' : NeedS n l ys f) : xs = ys ∧ e = f := by
  rcases h with ⟨h1, h2, rfl⟩ | ⟨rfl, o, h2, rfl⟩ <;> rcases h' with ⟨g1, g2, rfl⟩ | ⟨rfl, o', g2, rfl⟩
  · exact ⟨rfl, (h2.unique g2).2⟩
  · exact absurd (h2.unique g2).2 h1
  · exact absurd (h2.unique g2).2.symm g1
  · exact ⟨rfl, rfl⟩
end Go.Proofs.Ytjifpjfinffamaa
