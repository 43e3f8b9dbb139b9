/- The look's struct, field by field. -/
import Derived.Test.YtjifpjfinffamaaVB
namespace Go.Proofs.Ytjifpjfinffamaa
open Go.RowKit Go.Maps

def fld (H S M R : Nat → Value) (n d a : Value) (i : Nat) : Value :=
  if i < 52 then tabV i else if i = 84 then n else if i = 85 then d else if i = 86 then a
  else if i % 4 = 0 then H ((i - 52) / 4) else if i % 4 = 1 then S ((i - 52) / 4) else if i % 4 = 2 then M ((i - 52) / 4) else R ((i - 52) / 4)
theorem lF_fld (s : SS) (mp : Nat → Option Nat) (tr : Nat → Int) (hd : Int) (At : Option Addr) (nt ct : Nat) :
    lF s mp tr hd At nt ct = fld (fun i => .int .i64 (s.t i).how) (fun i => .int .u64 (s.t i).snap) (fun i => .map (mp i)) (fun i => .int .i64 (tr i)) (.int .u64 s.num) (.int .i64 hd) (.slice At nt ct) := rfl
section
variable {H S M R : Nat → Value} {n d a v : Value} {t j : Nat}
theorem fld_how (h8 : t < 8) : upf (fld H S M R n d a) (52 + t * 4) v j = fld (upf H t v) S M R n d a j := by
  unfold upf fld
  by_cases e : j = 52 + t * 4
  · subst e
    rw [if_pos rfl, if_neg (by omega), if_neg (by omega), if_neg (by omega), if_neg (by omega), if_pos (by omega), show (52 + t * 4 - 52) / 4 = t by omega]
    simp
  · rw [if_neg e]
    by_cases h1 : j < 52
    · simp [h1]
    · by_cases h2 : j % 4 = 0
      · simp only [h1, h2, if_false, if_true, show ¬ (j - 52) / 4 = t by omega]
      · simp only [h1, h2, if_false]
theorem fld_snap (h8 : t < 8) : upf (fld H S M R n d a) (52 + t * 4 + 1) v j = fld H (upf S t v) M R n d a j := by
  unfold upf fld
  by_cases e : j = 52 + t * 4 + 1
  · subst e
    rw [if_pos rfl, if_neg (by omega), if_neg (by omega), if_neg (by omega), if_neg (by omega), if_neg (by omega), if_pos (by omega), show (52 + t * 4 + 1 - 52) / 4 = t by omega]
    simp
  · rw [if_neg e]
    by_cases h1 : j < 52
    · simp [h1]
    · by_cases h2 : j % 4 = 1
      · simp only [h1, h2, if_false, if_true, show ¬ (j - 52) / 4 = t by omega]
      · simp only [h1, h2, if_false]
theorem fld_map (h8 : t < 8) : upf (fld H S M R n d a) (52 + t * 4 + 2) v j = fld H S (upf M t v) R n d a j := by
  unfold upf fld
  by_cases e : j = 52 + t * 4 + 2
  · subst e
    rw [if_pos rfl, if_neg (by omega), if_neg (by omega), if_neg (by omega), if_neg (by omega), if_neg (by omega), if_neg (by omega), if_pos (by omega), show (52 + t * 4 + 2 - 52) / 4 = t by omega]
    simp
  · rw [if_neg e]
    by_cases h1 : j < 52
    · simp [h1]
    · by_cases h2 : j % 4 = 2
      · simp only [h1, h2, if_false, if_true, show ¬ (j - 52) / 4 = t by omega]
      · simp only [h1, h2, if_false]
theorem fld_try (h8 : t < 8) : upf (fld H S M R n d a) (52 + t * 4 + 3) v j = fld H S M (upf R t v) n d a j := by
  unfold upf fld
  by_cases e : j = 52 + t * 4 + 3
  · subst e
    rw [if_pos rfl, if_neg (by omega), if_neg (by omega), if_neg (by omega), if_neg (by omega), if_neg (by omega), if_neg (by omega), if_neg (by omega), show (52 + t * 4 + 3 - 52) / 4 = t by omega]
    simp
  · rw [if_neg e]
    by_cases h1 : j < 52
    · simp [h1]
    · by_cases h0 : j = 84 ∨ j = 85 ∨ j = 86
      · rcases h0 with rfl | rfl | rfl <;> simp
      · by_cases h2 : j % 4 = 0 ∨ j % 4 = 1 ∨ j % 4 = 2
        · rcases h2 with h2 | h2 | h2 <;> simp [h1, h2]
        · have h3 : ¬ (j - 52) / 4 = t := by omega
          simp [h3]
theorem fld_num : upf (fld H S M R n d a) 84 v j = fld H S M R v d a j := by
  unfold upf fld
  by_cases e : j = 84
  · subst e; rfl
  · simp [e]
theorem fld_hd : upf (fld H S M R n d a) 85 v j = fld H S M R n v a j := by
  unfold upf fld
  by_cases e : j = 85
  · subst e; rfl
  · simp [e]
theorem fld_trs : upf (fld H S M R n d a) 86 v j = fld H S M R n d v j := by
  unfold upf fld
  by_cases e : j = 86
  · subst e; rfl
  · simp [e]
variable {w : World} {base b : Nat} {At : Option Addr} {ct nt : Nat} {vs : List Value} {ms : Nat → Option MP} {Q : Nat}
theorem LMem.congr {f g : Nat → Value} (h : LMem w base b f At ct nt vs ms Q) (hg : ∀ j, j < 87 → f j = g j) : LMem w base b g At ct nt vs ms Q := ⟨h.blk.congr hg, h.trs, h.shape, h.maps, h.apart⟩
theorem LMem.setHow (h : LMem w base b (fld H S M R n d a) At ct nt vs ms Q) (h8 : t < 8) (v : Value) : LMem (w.setCell ⟨b, 52 + t * 4, none⟩ v) base b (fld (upf H t v) S M R n d a) At ct nt vs ms Q := (h.field _ v).congr fun _ _ => fld_how h8
theorem LMem.setSnap (h : LMem w base b (fld H S M R n d a) At ct nt vs ms Q) (h8 : t < 8) (v : Value) : LMem (w.setCell ⟨b, 52 + t * 4 + 1, none⟩ v) base b (fld H (upf S t v) M R n d a) At ct nt vs ms Q := (h.field _ v).congr fun _ _ => fld_snap h8
theorem LMem.setMap (h : LMem w base b (fld H S M R n d a) At ct nt vs ms Q) (h8 : t < 8) (v : Value) : LMem (w.setCell ⟨b, 52 + t * 4 + 2, none⟩ v) base b (fld H S (upf M t v) R n d a) At ct nt vs ms Q := (h.field _ v).congr fun _ _ => fld_map h8
theorem LMem.setTry (h : LMem w base b (fld H S M R n d a) At ct nt vs ms Q) (h8 : t < 8) (v : Value) : LMem (w.setCell ⟨b, 52 + t * 4 + 3, none⟩ v) base b (fld H S M (upf R t v) n d a) At ct nt vs ms Q := (h.field _ v).congr fun _ _ => fld_try h8
theorem LMem.setNum (h : LMem w base b (fld H S M R n d a) At ct nt vs ms Q) (v : Value) : LMem (w.setCell ⟨b, 84, none⟩ v) base b (fld H S M R v d a) At ct nt vs ms Q := (h.field _ v).congr fun _ _ => fld_num
theorem LMem.setHd (h : LMem w base b (fld H S M R n d a) At ct nt vs ms Q) (v : Value) : LMem (w.setCell ⟨b, 85, none⟩ v) base b (fld H S M R n v a) At ct nt vs ms Q := (h.field _ v).congr fun _ _ => fld_hd
theorem LMem.setTrs (h : LMem w base b (fld H S M R n d a) At ct nt vs ms Q) (v : Value) : LMem (w.setCell ⟨b, 86, none⟩ v) base b (fld H S M R n d v) At ct nt vs ms Q := (h.field _ v).congr fun _ _ => fld_trs
end

/-- the maps as the state has them -/
def MapsOk (s : SS) (m : Nat) (mp : Nat → Option Nat) (ms : Nat → Option MP) : Prop := ∀ i, i < 8 → Act_ (s.t i).how → ∃ g n D, ms i = some (g, n, D) ∧ mp i = some g ∧ n ≤ m ∧ MDw D (s.t i).wr
section
variable {w : World} {base b m : Nat} {s : SS} {mp : Nat → Option Nat} {tr : Nat → Int} {hd : Int} {At : Option Addr} {ct nt : Nat} {vs : List Value}
theorem LInv.mem (h : LInv w base b m s mp tr hd At ct nt vs) : ∃ ms, LMem w base b (lF s mp tr hd At nt ct) At ct nt vs ms m ∧ MapsOk s m mp ms := by
  have h1 : ∀ i, ∃ x : Option MP, (i < 8 ∧ Act_ (s.t i).how → ∃ g n D, x = some (g, n, D) ∧ mp i = some g ∧ base ≤ g ∧ n ≤ m ∧ w.ownsMap (H := Unit) Try.prog 40 (plainElem Try.prog 40) g n D ∧ MDw D (s.t i).wr) ∧ (¬ (i < 8 ∧ Act_ (s.t i).how) → x = none) := by
    intro i
    by_cases hi : i < 8 ∧ Act_ (s.t i).how
    · obtain ⟨⟨g, n, D, a1, a2, a3, a4, a5⟩, _⟩ := h.maps i hi.1 hi.2
      exact ⟨some (g, n, D), fun _ => ⟨g, n, D, rfl, a1, a2, a3, a4, a5⟩, fun hc => absurd hi hc⟩
    · exact ⟨none, fun hc => absurd hc hi, fun _ => rfl⟩
  obtain ⟨ms, hms⟩ := Classical.axiomOfChoice h1
  refine ⟨ms, ⟨h.blk, h.trs, h.shape, fun i x hx => ?_, fun i j x y hij hx hy => ?_⟩, fun i hi ha => ?_⟩
  · by_cases hi : i < 8 ∧ Act_ (s.t i).how
    · obtain ⟨g, n, D, e, _, a2, _, a4, _⟩ := (hms i).1 hi
      rw [hx] at e
      injection e with e
      subst e
      exact ⟨a2, a4⟩
    · rw [(hms i).2 hi] at hx; cases hx
  · by_cases hi : i < 8 ∧ Act_ (s.t i).how
    · by_cases hj : j < 8 ∧ Act_ (s.t j).how
      · obtain ⟨g, n, D, e, a1, _⟩ := (hms i).1 hi
        obtain ⟨g', n', D', e', a1', _⟩ := (hms j).1 hj
        rw [hx] at e
        rw [hy] at e'
        injection e with e
        injection e' with e'
        subst e e'
        have := h.apart i j hi.1 hj.1 hij hi.2 hj.2
        rw [a1, a1'] at this
        exact fun e => this (congrArg some e)
      · rw [(hms j).2 hj] at hy; cases hy
    · rw [(hms i).2 hi] at hx; cases hx
  · obtain ⟨g, n, D, e, a1, _, a3, _, a5⟩ := (hms i).1 ⟨hi, ha⟩
    exact ⟨g, n, D, e, a1, a3, a5⟩
theorem LMem.inv {f : Nat → Value} {ms : Nat → Option MP} (h : LMem w base b f At ct nt vs ms m) (hf : ∀ j, j < 87 → f j = lF s mp tr hd At nt ct j) (hm : MapsOk s m mp ms) (ht : ∀ i, i < 8 → Act_ (s.t i).how → 0 ≤ tr i ∧ tr i < nt)
    (hh : (hd = -1 ∧ ∀ i, i < 8 → (s.t i).how ≠ 2) ∨ ∃ i : Nat, i < 8 ∧ hd = i ∧ (s.t i).how = 2 ∧ ∀ j, j < 8 → j ≠ i → (s.t j).how ≠ 2)
    (hs : ∀ i, i < 8 → 0 ≤ (s.t i).snap ∧ (s.t i).snap < 18446744073709551616) (ho : ∀ i, i < 8 → 0 ≤ (s.t i).how ∧ (s.t i).how < 4) (hn : nt ≤ m) : LInv w base b m s mp tr hd At ct nt vs := by
  refine ⟨h.blk.congr hf, h.trs, h.shape, fun i hi ha => ?_, fun i j hi hj hij hai haj => ?_, hh, hs, ho, hn⟩
  · obtain ⟨g, n, D, e, a1, a3, a5⟩ := hm i hi ha
    exact ⟨⟨g, n, D, a1, (h.maps i _ e).1, a3, (h.maps i _ e).2, a5⟩, ht i hi ha⟩
  · obtain ⟨g, n, D, e, a1, _⟩ := hm i hi hai
    obtain ⟨g', n', D', e', a1', _⟩ := hm j hj haj
    rw [a1, a1']
    intro hc
    injection hc with hc
    exact h.apart i j _ _ hij e e' hc
end
end Go.Proofs.Ytjifpjfinffamaa
