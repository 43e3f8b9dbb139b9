/- Plain: the document's order of blocks is the sorted one. -/
import Derived.Test.YtjifpjfinffamaaY2
import Derived.Shelf.SlSortCmp.NoneTotal
namespace Go.Proofs.Ytjifpjfinffamaa
open Go.RowKit Go.Sort

theorem BefB_irrefl (a : Bl) (x : Int) : BefB a x a x = false := by simp [BefB]
theorem BefB_trans {a b c : Bl} {x y z : Int} (h1 : BefB a x b y = true) (h2 : BefB b y c z = true) : BefB a x c z = true := by
  unfold BefB at *
  by_cases e1 : a.num = b.num
  · rw [if_neg (by simpa using e1)] at h1
    by_cases e2 : b.num = c.num
    · rw [if_neg (by simpa using e2)] at h2
      rw [if_neg (by simp [e1, e2])]
      cases ha : a.wr <;> cases hb : b.wr <;> cases hc : c.wr <;> simp [ha, hb, hc] at h1 h2 ⊢ <;> omega
    · rw [if_pos e2] at h2
      rw [if_pos (by rw [e1]; exact e2), e1]
      exact h2
  · rw [if_pos e1] at h1
    have h1' := of_decide_eq_true h1
    by_cases e2 : b.num = c.num
    · rw [if_pos (by rw [← e2]; exact e1), ← e2]
      exact h1
    · rw [if_pos e2] at h2
      have h2' := of_decide_eq_true h2
      rw [if_pos (by omega)]
      exact decide_eq_true (by omega)
theorem BefB_total {a b : Bl} {x y : Int} (h1 : BefB a x b y = false) (h2 : BefB b y a x = false) : x = y := by
  unfold BefB at *
  by_cases e1 : a.num = b.num
  · rw [if_neg (by simpa using e1)] at h1
    rw [if_neg (by simp [e1])] at h2
    cases ha : a.wr <;> cases hb : b.wr <;> simp [ha, hb] at h1 h2 <;> omega
  · rw [if_pos e1] at h1
    rw [if_pos (fun e => e1 e.symm)] at h2
    have h1' := of_decide_eq_false h1
    have h2' := of_decide_eq_false h2
    omega

/-- block i stands ahead of block k -/
def befL (bl : List Bl) (lk : List Nat) (i k : Nat) : Bool := BefB (blAt bl i) (lk.getD i 0 : Nat) (blAt bl k) (lk.getD k 0 : Nat)
def insB (bl : List Bl) (lk : List Nat) (i : Nat) : List Nat → List Nat
  | [] => [i]
  | k :: r => if befL bl lk i k = true then i :: k :: r else k :: insB bl lk i r
theorem insB_take (bl : List Bl) (lk : List Nat) (i : Nat) : ∀ (out : List Nat) (k : Nat), k ≤ out.length → (∀ j (h : j < out.length), j < k → befL bl lk i out[j] = false) → (∀ h : k < out.length, befL bl lk i out[k] = true) → insB bl lk i out = out.take k ++ i :: out.drop k
  | [], k, hk, _, _ => by
    obtain rfl : k = 0 := by simpa using hk
    rfl
  | a :: r, 0, _, _, h => by
    have h0 : befL bl lk i a = true := h (by simp)
    unfold insB
    rw [if_pos h0]
    rfl
  | a :: r, k + 1, hk, hlt, h => by
    have h0 := hlt 0 (by simp) (by omega)
    unfold insB
    rw [if_neg (by simpa using h0), insB_take bl lk i r k (by simpa using hk) (fun j hj hjk => hlt (j + 1) (by simpa using hj) (by omega)) (fun hkl => h (by simpa using hkl))]
    rfl
def ordS (bl : List Bl) (lk : List Nat) : Nat → List Nat
  | 0 => []
  | i + 1 => if OverB (blAt bl i) = true then insB bl lk i (ordS bl lk i) else ordS bl lk i
theorem insB_perm (bl : List Bl) (lk : List Nat) (i : Nat) : ∀ out : List Nat, (insB bl lk i out).Perm (i :: out)
  | [] => List.Perm.refl _
  | a :: r => by
    unfold insB
    split
    · exact List.Perm.refl _
    · exact ((insB_perm bl lk i r).cons a).trans (List.Perm.swap i a r)
theorem ordS_perm (bl : List Bl) (lk : List Nat) : ∀ n, (ordS bl lk n).Perm ((List.range n).filter fun i => OverB (blAt bl i))
  | 0 => List.Perm.refl _
  | n + 1 => by
    unfold ordS
    rw [List.range_succ, List.filter_append]
    have ih := ordS_perm bl lk n
    by_cases h : OverB (blAt bl n) = true
    · rw [if_pos h]
      have : [n].filter (fun i => OverB (blAt bl i)) = [n] := by simp [h]
      rw [this]
      exact ((insB_perm bl lk n _).trans (ih.cons n)).trans (List.perm_append_comm (l₁ := [n]))
    · rw [if_neg h]
      have : [n].filter (fun i => OverB (blAt bl i)) = [] := by simp [h]
      rw [this, List.append_nil]
      exact ih
theorem ordS_lt {bl : List Bl} {lk : List Nat} {n i : Nat} (h : i ∈ ordS bl lk n) : i < n := by
  have := (ordS_perm bl lk n).mem_iff.1 h
  exact List.mem_range.1 (List.mem_filter.1 this).1
theorem ordS_over {bl : List Bl} {lk : List Nat} {n i : Nat} (h : i ∈ ordS bl lk n) : OverB (blAt bl i) = true := by
  have := (ordS_perm bl lk n).mem_iff.1 h
  exact (List.mem_filter.1 this).2
theorem ordS_len (bl : List Bl) (lk : List Nat) (n : Nat) : (ordS bl lk n).length ≤ n := by
  rw [(ordS_perm bl lk n).length_eq]
  have := List.length_filter_le (fun i => OverB (blAt bl i)) (List.range n)
  simpa using this
/-- the looks part any two -/
def PartL (lk : List Nat) (n : Nat) : Prop := ∀ i k, i < n → k < n → lk.getD i 0 = lk.getD k 0 → i = k
theorem PartL.of {lk : List Nat} (h : lk.Nodup) : PartL lk lk.length := by
  intro i k hi hk he
  rw [List.nodup_iff_pairwise_ne, List.pairwise_iff_getElem] at h
  simp only [List.getD, List.getElem?_eq_getElem hi, List.getElem?_eq_getElem hk, Option.getD_some] at he
  rcases Nat.lt_trichotomy i k with q | q | q
  · exact absurd he (h i k hi hk q)
  · exact q
  · exact absurd he.symm (h k i hk hi q)
theorem befL_total {bl : List Bl} {lk : List Nat} {n i k : Nat} (hP : PartL lk n) (hi : i < n) (hk : k < n) (h1 : befL bl lk i k = false) (h2 : befL bl lk k i = false) : i = k := by
  have := BefB_total h1 h2
  exact hP i k hi hk (by omega)
theorem befL_trans {bl : List Bl} {lk : List Nat} {i k j : Nat} (h1 : befL bl lk i k = true) (h2 : befL bl lk k j = true) : befL bl lk i j = true := BefB_trans h1 h2
theorem befL_irrefl (bl : List Bl) (lk : List Nat) (i : Nat) : befL bl lk i i = false := BefB_irrefl _ _
theorem insB_sorted {bl : List Bl} {lk : List Nat} {n : Nat} (hP : PartL lk n) {i : Nat} (hi : i < n) : ∀ out : List Nat, (∀ x ∈ out, x < n ∧ x ≠ i) → out.Pairwise (fun a b => befL bl lk a b = true) → (insB bl lk i out).Pairwise (fun a b => befL bl lk a b = true)
  | [], _, _ => by simp [insB]
  | a :: r, hx, hs => by
    have hs' := List.pairwise_cons.1 hs
    unfold insB
    by_cases h : befL bl lk i a = true
    · rw [if_pos h]
      refine List.pairwise_cons.2 ⟨fun b hb => ?_, hs⟩
      rcases List.mem_cons.1 hb with rfl | hb
      · exact h
      · exact befL_trans h (hs'.1 b hb)
    · rw [if_neg h]
      refine List.pairwise_cons.2 ⟨fun b hb => ?_, insB_sorted hP hi r (fun x hxr => hx x (List.mem_cons_of_mem _ hxr)) hs'.2⟩
      rcases List.mem_cons.1 ((insB_perm bl lk i r).mem_iff.1 hb) with rfl | hb
      · have ha := hx a List.mem_cons_self
        cases hai : befL bl lk a b with
        | true => rfl
        | false => exact absurd (befL_total hP ha.1 hi hai (by simpa using h)) ha.2
      · exact hs'.1 b hb
theorem ordS_sorted {bl : List Bl} {lk : List Nat} {n : Nat} (hP : PartL lk n) : ∀ m, m ≤ n → (ordS bl lk m).Pairwise (fun a b => befL bl lk a b = true)
  | 0, _ => List.Pairwise.nil
  | m + 1, hm => by
    have ih := ordS_sorted (bl := bl) hP m (by omega)
    unfold ordS
    split
    · exact insB_sorted hP (by omega) _ (fun x hx => by have := ordS_lt hx; omega) ih
    · exact ih

/-- what the comparison answers -/
def cmp3 (x y : Int) : Int := if x < y then -1 else if x = y then 0 else 1
def fstB (b : Bl) : Int := if b.wr = true then 0 else 1
def cfB (bl : List Bl) (lk : List Nat) (i k : Nat) : Int :=
  if cmp3 (blAt bl i).num (blAt bl k).num ≠ 0 then cmp3 (blAt bl i).num (blAt bl k).num else if cmp3 (fstB (blAt bl i)) (fstB (blAt bl k)) ≠ 0 then cmp3 (fstB (blAt bl i)) (fstB (blAt bl k)) else cmp3 (lk.getD i 0 : Nat) (lk.getD k 0 : Nat)
theorem cmp3_neg {x y : Int} : cmp3 x y < 0 ↔ x < y := by unfold cmp3; split <;> (try split) <;> simp_all <;> omega
theorem cmp3_zero {x y : Int} : cmp3 x y = 0 ↔ x = y := by unfold cmp3; split <;> (try split) <;> simp_all <;> omega
theorem cfB_bef (bl : List Bl) (lk : List Nat) (i k : Nat) : decide (cfB bl lk i k < 0) = befL bl lk i k := by
  unfold cfB befL BefB
  by_cases h1 : (blAt bl i).num = (blAt bl k).num
  · have n1 : ¬ cmp3 (blAt bl i).num (blAt bl k).num ≠ 0 := fun q => q (cmp3_zero.2 h1)
    have n2 : ¬ (blAt bl i).num ≠ (blAt bl k).num := fun q => q h1
    rw [if_neg n1, if_neg n2]
    by_cases h2 : (blAt bl i).wr = (blAt bl k).wr
    · have h3 : fstB (blAt bl i) = fstB (blAt bl k) := by unfold fstB; rw [h2]
      have n3 : ¬ cmp3 (fstB (blAt bl i)) (fstB (blAt bl k)) ≠ 0 := fun q => q (cmp3_zero.2 h3)
      have n4 : ¬ (blAt bl i).wr ≠ (blAt bl k).wr := fun q => q h2
      rw [if_neg n3, if_neg n4]
      simp only [cmp3_neg]
    · have h3 : fstB (blAt bl i) ≠ fstB (blAt bl k) := by
        unfold fstB
        intro e
        apply h2
        cases ha : (blAt bl i).wr <;> cases hb : (blAt bl k).wr <;> simp [ha, hb] at e ⊢
      have n3 : cmp3 (fstB (blAt bl i)) (fstB (blAt bl k)) ≠ 0 := fun e => h3 (cmp3_zero.1 e)
      rw [if_pos n3, if_pos h2]
      simp only [cmp3_neg]
      unfold fstB
      cases ha : (blAt bl i).wr <;> cases hb : (blAt bl k).wr <;> simp [ha, hb] at h2 ⊢
  · have n1 : cmp3 (blAt bl i).num (blAt bl k).num ≠ 0 := fun e => h1 (cmp3_zero.1 e)
    rw [if_pos n1, if_pos h1]
    simp only [cmp3_neg]
theorem cfF_lt (bl : List Bl) (lk : List Nat) (n : Nat) (x y : Fin n) : ltOf (fun x y : Fin n => cfB bl lk x.val y.val) x y = befL bl lk x.val y.val := cfB_bef bl lk x.val y.val
theorem cfF_swo {bl : List Bl} {lk : List Nat} {n : Nat} (hP : PartL lk n) : SWO (ltOf fun x y : Fin n => cfB bl lk x.val y.val) where
  irrefl x := by rw [cfF_lt]; exact befL_irrefl _ _ _
  trans x y z h1 h2 := by rw [cfF_lt] at *; exact befL_trans h1 h2
  ntrans x y z h1 h2 := by
    rw [cfF_lt] at *
    cases hq : befL bl lk x.val z.val with
    | false => rfl
    | true =>
      exfalso
      cases hyx : befL bl lk y.val x.val with
      | true => rw [befL_trans hyx hq] at h2; cases h2
      | false =>
        have := befL_total hP x.isLt y.isLt h1 hyx
        rw [this] at hq
        rw [hq] at h2
        cases h2
theorem cfF_part {bl : List Bl} {lk : List Nat} {n : Nat} (hP : PartL lk n) (x y : Fin n) (h1 : ltOf (fun x y : Fin n => cfB bl lk x.val y.val) x y = false) (h2 : ltOf (fun x y : Fin n => cfB bl lk x.val y.val) y x = false) : x = y := by
  rw [cfF_lt] at *
  exact Fin.ext (befL_total hP x.isLt y.isLt h1 h2)
/-- the sorted places are the document's order -/
theorem sort_ordS {bl : List Bl} {lk : List Nat} {n : Nat} (hP : PartL lk n) (d : List (Fin n)) (hd : d.map Fin.val = (List.range n).filter fun i => OverB (blAt bl i)) :
    (d.mergeSort fun x y => !(ltOf fun x y : Fin n => cfB bl lk x.val y.val) y x).map Fin.val = ordS bl lk n := by
  have hsw := cfF_swo (bl := bl) hP
  have hs : (d.mergeSort fun x y => !(ltOf fun x y : Fin n => cfB bl lk x.val y.val) y x).Pairwise (fun x y => (!(ltOf fun x y : Fin n => cfB bl lk x.val y.val) y x) = true) := by
    refine List.pairwise_mergeSort (fun a b c h1 h2 => ?_) (fun a b => ?_) d
    · simp only [Bool.not_eq_true'] at h1 h2 ⊢
      exact hsw.ntrans _ _ _ h2 h1
    · simp only [Bool.or_eq_true, Bool.not_eq_true']
      rw [cfF_lt, cfF_lt]
      cases h1 : befL bl lk b.val a.val with
      | false => exact .inl rfl
      | true =>
        right
        cases h2 : befL bl lk a.val b.val with
        | false => rfl
        | true =>
          have := befL_trans h1 h2
          rw [befL_irrefl] at this
          cases this
  have hp : ((d.mergeSort fun x y => !(ltOf fun x y : Fin n => cfB bl lk x.val y.val) y x).map Fin.val).Perm (ordS bl lk n) := by
    refine ((List.mergeSort_perm d _).map Fin.val).trans ?_
    rw [hd]
    exact (ordS_perm bl lk n).symm
  refine List.Perm.eq_of_pairwise (le := fun a b => befL bl lk b a = false) (fun a b ha hb h1 h2 => ?_) ?_ ?_ hp
  · have hb' := ordS_lt hb
    have ha' := ordS_lt (hp.mem_iff.1 ha)
    exact befL_total hP ha' hb' h2 h1
  · rw [List.pairwise_map]
    refine hs.imp fun {a b} h => ?_
    rw [cfF_lt] at h
    simpa using h
  · refine (ordS_sorted hP n (Nat.le_refl _)).imp fun {a b} h => ?_
    cases h2 : befL bl lk b a with
    | false => rfl
    | true =>
      have := befL_trans h h2
      rw [befL_irrefl] at this
      cases this
end Go.Proofs.Ytjifpjfinffamaa
