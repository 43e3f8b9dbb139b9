/- The look behind an event. -/
import Derived.Test.YtjifpjfinffamaaVC
namespace Go.Proofs.Ytjifpjfinffamaa
open Go.RowKit Go.Maps

theorem adv_fld (s : SS) (e : Ev) {t : Nat} (ht : e.th.toNat = t) {nx : Int} (hnx : nx = nextI (s.t t).how e.kind e.err) (mp : Nat → Option Nat) (tr : Nat → Int) (hd : Int) (At : Option Addr) (nt ct : Nat) :
    lF (adv s e) mp tr hd At nt ct = fld (upf (fun i => .int .i64 (s.t i).how) t (.int .i64 nx)) (if e.kind = 1 ∨ e.kind = 4 then upf (fun i => .int .u64 (s.t i).snap) t (.int .u64 e.word) else fun i => .int .u64 (s.t i).snap)
      (fun i => .map (mp i)) (fun i => .int .i64 (tr i)) (.int .u64 (if e.kind = 6 ∧ (s.t t).how = 2 then e.word else s.num)) (.int .i64 hd) (.slice At nt ct) := by
  rw [lF_fld]
  congr 1
  · funext i
    by_cases h : i = t
    · subst h; simp [adv, ht, upf, advT, hnx]
    · simp [adv, ht, upf, h]
  · funext i
    by_cases h : i = t
    · subst h
      by_cases hk : e.kind = 1 ∨ e.kind = 4
      · simp [adv, ht, upf, advT, hk]
      · simp [adv, ht, advT, hk]
    · by_cases hk : e.kind = 1 ∨ e.kind = 4
      · simp [adv, ht, upf, h, hk]
      · simp [adv, ht, h, hk]
  · simp [adv, ht]
theorem upf_map {mp : Nat → Option Nat} {t : Nat} {x : Option Nat} : upf (fun i => Value.map (mp i)) t (.map x) = fun i => .map (if i = t then x else mp i) := by
  funext i
  unfold upf
  split <;> rfl
theorem upf_try {tr : Nat → Int} {t : Nat} {x : Int} : upf (fun i => Value.int .i64 (tr i)) t (.int .i64 x) = fun i => .int .i64 (if i = t then x else tr i) := by
  funext i
  unfold upf
  split <;> rfl
theorem LMem.fin {w0 w : World} {base b m : Nat} {s : SS} {mp mp' : Nat → Option Nat} {tr tr' : Nat → Int} {hd hd' nx : Int} {At At' : Option Addr} {ct nt ct' nt' t : Nat} {vs vs' : List Value} {ms ms' : Nat → Option MP} {e : Ev}
    (hI : LInv w0 base b m s mp tr hd At ct nt vs) (hM : LMem w base b (lF (adv s e) mp' tr' hd' At' nt' ct') At' ct' nt' vs' ms' (m + 1)) (ht : e.th.toNat = t) (he : e.Wd) (hnx : 0 ≤ nx ∧ nx < 4) (hnx' : nx = nextI (s.t t).how e.kind e.err) (hMO : MapsOk s m mp ms)
    (ho : ∀ i, i ≠ t → mp' i = mp i ∧ ms' i = ms i ∧ tr' i = tr i) (hnt : nt ≤ nt' ∧ nt' ≤ m + 1)
    (hmt : Act_ nx → ∃ g n D, ms' t = some (g, n, D) ∧ mp' t = some g ∧ n ≤ m + 1 ∧ MDw D (advT (s.t t) e).wr) (htt : Act_ nx → 0 ≤ tr' t ∧ tr' t < nt')
    (hh : (hd' = -1 ∧ ∀ i, i < 8 → ((adv s e).t i).how ≠ 2) ∨ ∃ i : Nat, i < 8 ∧ hd' = i ∧ ((adv s e).t i).how = 2 ∧ ∀ j, j < 8 → j ≠ i → ((adv s e).t j).how ≠ 2) :
    LInv w base b (m + 1) (adv s e) mp' tr' hd' At' ct' nt' vs' := by
  have e1 : (adv s e).t t = advT (s.t t) e := by simp [adv, ht]
  have e2 : ∀ i, i ≠ t → (adv s e).t i = s.t i := fun i hi => by simp [adv, ht, hi]
  have e3 : (advT (s.t t) e).how = nx := by rw [hnx']; rfl
  refine hM.inv (fun j _ => rfl) (fun i hi ha => ?_) (fun i hi ha => ?_) hh (fun i hi => ?_) (fun i hi => ?_) hnt.2
  · by_cases h : i = t
    · subst h
      rw [e1] at ha ⊢
      rw [e3] at ha
      exact hmt ha
    · rw [e2 i h] at ha ⊢
      obtain ⟨g, n, D, a1, a2, a3, a4⟩ := hMO i hi ha
      exact ⟨g, n, D, (ho i h).2.1.trans a1, (ho i h).1.trans a2, Nat.le_succ_of_le a3, a4⟩
  · by_cases h : i = t
    · subst h
      rw [e1, e3] at ha
      exact htt ha
    · rw [e2 i h] at ha
      have := (hI.maps i hi ha).2
      rw [(ho i h).2.2]
      omega
  · by_cases h : i = t
    · subst h
      rw [e1]
      simp only [advT]
      split
      · exact he.2
      · exact hI.snap i hi
    · rw [e2 i h]; exact hI.snap i hi
  · by_cases h : i = t
    · subst h
      rw [e1, e3]
      exact hnx
    · rw [e2 i h]; exact hI.how i hi
/-- who holds the lock: as before, where neither is the holder -/
theorem hold_same {w0 : World} {base b m : Nat} {s : SS} {mp : Nat → Option Nat} {tr : Nat → Int} {hd nx : Int} {At : Option Addr} {ct nt t : Nat} {vs : List Value} {e : Ev} (hI : LInv w0 base b m s mp tr hd At ct nt vs) (ht : e.th.toNat = t)
    (hnx' : nx = nextI (s.t t).how e.kind e.err) (h1 : nx ≠ 2) (h2 : (s.t t).how ≠ 2) : (hd = -1 ∧ ∀ i, i < 8 → ((adv s e).t i).how ≠ 2) ∨ ∃ i : Nat, i < 8 ∧ hd = i ∧ ((adv s e).t i).how = 2 ∧ ∀ j, j < 8 → j ≠ i → ((adv s e).t j).how ≠ 2 := by
  have e1 : ((adv s e).t t).how = nx := by rw [hnx']; simp [adv, ht, advT]
  have e2 : ∀ i, i ≠ t → (adv s e).t i = s.t i := fun i hi => by simp [adv, ht, hi]
  rcases hI.hold with ⟨rfl, h⟩ | ⟨i, hi, rfl, a1, a2⟩
  · left
    refine ⟨rfl, fun i hi => ?_⟩
    by_cases hit : i = t
    · subst hit; rw [e1]; exact h1
    · rw [e2 i hit]; exact h i hi
  · right
    have hit : i ≠ t := fun e' => h2 (e' ▸ a1)
    refine ⟨i, hi, rfl, by rw [e2 i hit]; exact a1, fun j hj hji => ?_⟩
    by_cases hjt : j = t
    · subst hjt; rw [e1]; exact h1
    · rw [e2 j hjt]; exact a2 j hj hji
theorem hold_take {s : SS} {nx : Int} {t : Nat} {e : Ev} (ht : e.th.toNat = t) (h8 : t < 8)
    (hnx' : nx = nextI (s.t t).how e.kind e.err) (h1 : nx = 2) (hl : lockedB s t = false) : ((t : Int) = -1 ∧ ∀ i, i < 8 → ((adv s e).t i).how ≠ 2) ∨ ∃ i : Nat, i < 8 ∧ (t : Int) = i ∧ ((adv s e).t i).how = 2 ∧ ∀ j, j < 8 → j ≠ i → ((adv s e).t j).how ≠ 2 := by
  have e1 : ((adv s e).t t).how = nx := by rw [hnx']; simp [adv, ht, advT]
  have e2 : ∀ i, i ≠ t → (adv s e).t i = s.t i := fun i hi => by simp [adv, ht, hi]
  refine .inr ⟨t, h8, rfl, by rw [e1, h1], fun j hj hjt => ?_⟩
  rw [e2 j hjt]
  intro h
  have : lockedB s t = true := by
    unfold lockedB
    rw [List.any_eq_true]
    exact ⟨j, List.mem_range.2 hj, by simp [hjt, h]⟩
  rw [hl] at this
  cases this
theorem hold_free {w0 : World} {base b m : Nat} {s : SS} {mp : Nat → Option Nat} {tr : Nat → Int} {hd nx : Int} {At : Option Addr} {ct nt t : Nat} {vs : List Value} {e : Ev} (hI : LInv w0 base b m s mp tr hd At ct nt vs) (ht : e.th.toNat = t) (h8 : t < 8)
    (hnx' : nx = nextI (s.t t).how e.kind e.err) (h1 : nx ≠ 2) (h2 : (s.t t).how = 2) : ((-1 : Int) = -1 ∧ ∀ i, i < 8 → ((adv s e).t i).how ≠ 2) ∨ ∃ i : Nat, i < 8 ∧ (-1 : Int) = i ∧ ((adv s e).t i).how = 2 ∧ ∀ j, j < 8 → j ≠ i → ((adv s e).t j).how ≠ 2 := by
  have e1 : ((adv s e).t t).how = nx := by rw [hnx']; simp [adv, ht, advT]
  have e2 : ∀ i, i ≠ t → (adv s e).t i = s.t i := fun i hi => by simp [adv, ht, hi]
  refine .inl ⟨rfl, fun i hi => ?_⟩
  by_cases hit : i = t
  · subst hit; rw [e1]; exact h1
  · rw [e2 i hit]
    rcases hI.hold with ⟨_, h⟩ | ⟨k, _, _, a1, a2⟩
    · exact h i hi
    · by_cases hk : k = t
      · subst hk; exact a2 i hi hit
      · exact absurd h2 (a2 t h8 (fun e' => hk e'.symm))
end Go.Proofs.Ytjifpjfinffamaa
