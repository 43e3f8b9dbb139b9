/- The document's World in memory. -/
import Derived.Test.YtjifpjfinffamaaV4
import Derived.Test.YtjifpjfinffamaaLib3
import Derived.BigRegion
namespace Go.Proofs.Ytjifpjfinffamaa
open Go.RowKit

def pcells (p : Int × Int) : List Value := [.int .u64 p.1, .int .u64 p.2]
theorem pcells_len (l : List (Int × Int)) : (l.flatMap pcells).length = l.length * 2 := by
  induction l with
  | nil => rfl
  | cons e r ih => simp [List.flatMap_cons, ih, pcells]; omega
theorem pcells_get : ∀ (l : List (Int × Int)) (i : Nat) (h : i < l.length), (l.flatMap pcells)[i * 2]? = some (.int .u64 l[i].1) ∧ (l.flatMap pcells)[i * 2 + 1]? = some (.int .u64 l[i].2)
  | [], i, h => by simp at h
  | e :: r, 0, h => by simp [List.flatMap_cons, pcells]
  | e :: r, i + 1, h => by
    have hi : i < r.length := by simpa using h
    have := pcells_get r i hi
    have e1 : (i + 1) * 2 = i * 2 + 2 := by omega
    have l2 : (pcells e).length = 2 := rfl
    rw [List.flatMap_cons, e1]
    refine ⟨?_, ?_⟩ <;> rw [List.getElem?_append_right (by rw [l2]; omega), l2]
    · simpa using this.1
    · rw [show i * 2 + 2 + 1 - 2 = i * 2 + 1 from by omega]; simpa using this.2
/-- a list of pairs that the call itself has made -/
def OwnP (w : World) (base : Nat) (A : Option Addr) (c : Nat) (l : List (Int × Int)) : Prop := w.ownsRow base 182 2 (.slice A l.length c) l.length (l.flatMap pcells)
theorem OwnP.nil (w : World) (base : Nat) : OwnP w base none 0 [] := World.ownsRow_nil w base 182 2
theorem OwnP.reads {w : World} {base : Nat} {A : Option Addr} {c : Nat} {l : List (Int × Int)} (h : OwnP w base A c l) : RP w w.heap.size A l := by
  intro hn
  obtain ⟨g, cap, hv, _, hlt⟩ := World.ownsRow.form h hn
  have hA : A = some ⟨g, 0, none⟩ := by injection hv
  subst hA
  refine ⟨g, 0, rfl, hlt, fun i hi => ?_⟩
  have hg := pcells_get l i hi
  have hcell : ∀ j u, (l.flatMap pcells)[j]? = some u → w.cell? ⟨g, 0 + j, none⟩ = some u := by
    intro j u hu
    have := World.ownsRow.cells h (g := g) rfl j u hu
    rw [Addr.add_lit] at this
    exact this
  exact ⟨hcell _ _ hg.1, hcell _ _ hg.2⟩
theorem OwnP.kept {w w' : World} {base : Nat} {A : Option Addr} {c : Nat} {l : List (Int × Int)} (h : OwnP w base A c l) (hk : ∀ g, (Value.slice A l.length c).ownBlock = some g → w'.heap[g]? = w.heap[g]?) : OwnP w' base A c l := by
  refine ⟨(show _ ∧ _ from h).1, ?_⟩
  rcases (show _ ∨ _ from h.2) with h2 | ⟨g, cap, cur, hv, hbg, hh, h3⟩
  · exact .inl h2
  · exact .inr ⟨g, cap, cur, hv, hbg, (hk g (by rw [hv]; rfl)).trans hh, h3⟩

def wF (s : SS) (A : Nat → Option Addr) (c : Nat → Nat) (i : Nat) : Value :=
  if i = 24 then .int .u64 s.num else if i % 3 = 0 then .int .i64 (s.t (i / 3)).how else if i % 3 = 1 then .int .u64 (s.t (i / 3)).snap else .slice (A (i / 3)) (s.t (i / 3)).wr.length (c (i / 3))
/-- a World in block b, of the call's own; m events have come -/
structure WInv (w : World) (base b m : Nat) (s : SS) (A : Nat → Option Addr) (c : Nat → Nat) : Prop where
  blk : Blk w base 142 b 25 (wF s A c)
  own : ∀ i, i < 8 → OwnP w base (A i) (c i) (s.t i).wr
  apart : ∀ i j, i < 8 → j < 8 → i ≠ j → (Value.slice (A i) (s.t i).wr.length (c i)).ownBlock = none ∨ (Value.slice (A i) (s.t i).wr.length (c i)).ownBlock ≠ (Value.slice (A j) (s.t j).wr.length (c j)).ownBlock
  len : ∀ i, i < 8 → (s.t i).wr.length ≤ m
  snap : ∀ i, i < 8 → 0 ≤ (s.t i).snap ∧ (s.t i).snap < 18446744073709551616
theorem WInv.cells {w : World} {base b m : Nat} {s : SS} {A : Nat → Option Addr} {c : Nat → Nat} (h : WInv w base b m s A c) : WldC w b s A c := by
  refine ⟨fun i hi => ?_, fun i hi => ?_, fun i hi => ?_, ?_⟩
  · rw [(h.blk.cell (j := i * 3) (by omega)).1]
    simp [wF, show ¬ i * 3 = 24 by omega]
  · rw [(h.blk.cell (j := i * 3 + 1) (by omega)).1]
    simp only [wF, show ¬ i * 3 + 1 = 24 by omega, if_false, show (i * 3 + 1) % 3 = 1 by omega, show (i * 3 + 1) / 3 = i by omega]
    simp
  · rw [(h.blk.cell (j := i * 3 + 2) (by omega)).1]
    simp only [wF, show ¬ i * 3 + 2 = 24 by omega, if_false, show (i * 3 + 2) % 3 = 2 by omega, show (i * 3 + 2) / 3 = i by omega]
    simp
  · rw [(h.blk.cell (j := 24) (by omega)).1]
    simp [wF]
theorem WInv.notb {w : World} {base b m : Nat} {s : SS} {A : Nat → Option Addr} {c : Nat → Nat} (h : WInv w base b m s A c) {i : Nat} (hi : i < 8) : (Value.slice (A i) (s.t i).wr.length (c i)).ownBlock ≠ some b := by
  rcases (show _ ∨ _ from (show _ ∧ _ from h.blk).2) with ⟨hc', _⟩ | ⟨g', cap', cur, hv', _, hh, _⟩
  · cases hc'
  · injection hv' with hv'
    injection hv' with hv'
    injection hv' with hv'
    rw [← hv'] at hh
    exact own_ne_blk (h.own i hi) hh (by decide)
/-- nothing of it has been touched -/
theorem WInv.kept {w w' : World} {base b m : Nat} {s : SS} {A : Nat → Option Addr} {c : Nat → Nat} (h : WInv w base b m s A c) (hb : Below w.heap.size w w') : WInv w' base b m s A c :=
  ⟨h.blk.below h.blk.lt.2 hb, fun i hi => (h.own i hi).kept fun g hg => hb.block g (World.ownsRow.lt (h.own i hi) g hg).2, h.apart, h.len, h.snap⟩
theorem WInv.base' {w : World} {base base' b m : Nat} {s : SS} {A : Nat → Option Addr} {c : Nat → Nat} (h : WInv w base b m s A c) (hb : base' ≤ base) : WInv w base' b m s A c :=
  ⟨h.blk.base' hb, fun i hi => own_base (h.own i hi) hb, h.apart, h.len, h.snap⟩
theorem WInv.more {w : World} {base b m m' : Nat} {s : SS} {A : Nat → Option Addr} {c : Nat → Nat} (h : WInv w base b m s A c) (hm : m ≤ m') : WInv w base b m' s A c :=
  ⟨h.blk, h.own, h.apart, fun i hi => Nat.le_trans (h.len i hi) hm, h.snap⟩
/-- one cell of the struct is written: a number -/
theorem WInv.turn {w : World} {base b m : Nat} {s s' : SS} {A : Nat → Option Addr} {c : Nat → Nat} (h : WInv w base b m s A c) (j : Nat) (v : Value) (hv : ∀ i, i < 25 → (if i = j then v else wF s A c i) = wF s' A c i) (hw : ∀ i, i < 8 → (s'.t i).wr = (s.t i).wr)
    (hsn : ∀ i, i < 8 → 0 ≤ (s'.t i).snap ∧ (s'.t i).snap < 18446744073709551616) : WInv (w.setCell ⟨b, j, none⟩ v) base b m s' A c := by
  refine ⟨(h.blk.set j v).congr hv, fun i hi => ?_, fun i k hi hk hne => ?_, fun i hi => by rw [hw i hi]; exact h.len i hi, hsn⟩
  · rw [hw i hi]
    refine (h.own i hi).kept fun g hg => ?_
    have hgb : g ≠ b := fun e => h.notb hi (by rw [hg, e])
    exact Below.heap_setCell w ⟨b, j, none⟩ v g hgb
  · rw [hw i hi, hw k hk]
    exact h.apart i k hi hk hne

def setT (s : SS) (th : Nat) (t : TS) : SS := ⟨fun i => if i = th then t else s.t i, s.num⟩
theorem WInv.how' {w : World} {base b m : Nat} {s : SS} {A : Nat → Option Addr} {c : Nat → Nat} (h : WInv w base b m s A c) {th : Nat} (hth : th < 8) (x : Int) :
    WInv (w.setCell ⟨b, th * 3, none⟩ (.int .i64 x)) base b m (setT s th ⟨x, (s.t th).snap, (s.t th).wr⟩) A c := by
  refine h.turn _ _ (fun i hi => ?_) (fun i hi => ?_) (fun i hi => ?_)
  · by_cases e : i = 24
    · subst e
      rw [if_neg (by omega)]
      simp [wF, setT]
    · simp only [wF, e, if_false, setT]
      by_cases e2 : i / 3 = th
      · subst e2
        by_cases e3 : i % 3 = 0
        · rw [if_pos (by omega)]; simp [e3]
        · rw [if_neg (by omega)]; simp [e3]
      · rw [if_neg (by omega)]; simp [e2]
  · by_cases e : i = th
    · subst e; simp [setT]
    · simp [setT, e]
  · by_cases e : i = th
    · subst e; simp [setT]; exact h.snap i hi
    · simp [setT, e]; exact h.snap i hi
theorem WInv.snap' {w : World} {base b m : Nat} {s : SS} {A : Nat → Option Addr} {c : Nat → Nat} (h : WInv w base b m s A c) (th : Nat) (x : Int) (hx : 0 ≤ x ∧ x < 18446744073709551616) :
    WInv (w.setCell ⟨b, th * 3 + 1, none⟩ (.int .u64 x)) base b m (setT s th ⟨(s.t th).how, x, (s.t th).wr⟩) A c := by
  refine h.turn _ _ (fun i hi => ?_) (fun i hi => ?_) (fun i hi => ?_)
  · by_cases e : i = 24
    · subst e
      rw [if_neg (by omega)]
      simp [wF, setT]
    · simp only [wF, e, if_false, setT]
      by_cases e2 : i / 3 = th
      · subst e2
        by_cases e3 : i % 3 = 1
        · rw [if_pos (by omega)]; simp [e3]
        · rw [if_neg (by omega)]; simp [e3]
      · rw [if_neg (by omega)]; simp [e2]
  · by_cases e : i = th
    · subst e; simp [setT]
    · simp [setT, e]
  · by_cases e : i = th
    · subst e; simp [setT]; exact hx
    · simp [setT, e]; exact h.snap i hi
theorem WInv.num' {w : World} {base b m : Nat} {s : SS} {A : Nat → Option Addr} {c : Nat → Nat} (h : WInv w base b m s A c) (x : Int) :
    WInv (w.setCell ⟨b, 24, none⟩ (.int .u64 x)) base b m ⟨s.t, x⟩ A c := by
  refine h.turn _ _ (fun i hi => ?_) (fun i hi => rfl) h.snap
  by_cases e : i = 24
  · subst e
    simp [wF]
  · simp [wF, e]
/-- one thread's list is another one now -/
theorem WInv.list' {w w2 : World} {base b m : Nat} {s : SS} {A : Nat → Option Addr} {c : Nat → Nat} (h : WInv w base b m s A c) {th : Nat} (hth : th < 8) (A2 : Option Addr) (c2 : Nat) (l2 : List (Int × Int)) (hown : OwnP w2 base A2 c2 l2)
    (hgr : ∀ g, g < w.heap.size → (Value.slice (A th) (s.t th).wr.length (c th)).ownBlock ≠ some g → w2.heap[g]? = w.heap[g]?) (hl : l2.length ≤ m + 1)
    (hat : (Value.slice A2 l2.length c2).ownBlock = none ∨ (Value.slice A2 l2.length c2).ownBlock = (Value.slice (A th) (s.t th).wr.length (c th)).ownBlock ∨ ∃ g', (Value.slice A2 l2.length c2).ownBlock = some g' ∧ w.heap.size ≤ g') :
    WInv (w2.setCell ⟨b, th * 3 + 2, none⟩ (.slice A2 l2.length c2)) base b (m + 1) (setT s th ⟨(s.t th).how, (s.t th).snap, l2⟩) (fun i => if i = th then A2 else A i) (fun i => if i = th then c2 else c i) := by
  have hbw := h.blk.lt.2
  have hblk : Blk w2 base 142 b 25 (wF s A c) := h.blk.kept (hgr b hbw (h.notb hth))
  have h2b : (Value.slice A2 l2.length c2).ownBlock ≠ some b := by
    rcases hat with h1 | h1 | ⟨g', h1, h2⟩
    · rw [h1]; exact fun e => by cases e
    · rw [h1]; exact h.notb hth
    · rw [h1]
      intro e
      injection e with e
      omega
  have hne : ∀ i, i < 8 → i ≠ th → (Value.slice (A i) (s.t i).wr.length (c i)).ownBlock = none ∨ (Value.slice (A i) (s.t i).wr.length (c i)).ownBlock ≠ (Value.slice A2 l2.length c2).ownBlock := fun i hi hit => by
    rcases hat with h1 | h1 | ⟨g', h1, h2⟩
    · cases hq : (Value.slice (A i) (s.t i).wr.length (c i)).ownBlock with
      | none => exact .inl rfl
      | some g => rw [h1]; exact .inr (fun e => by cases e)
    · rw [h1]; exact h.apart i th hi hth hit
    · cases hq : (Value.slice (A i) (s.t i).wr.length (c i)).ownBlock with
      | none => exact .inl rfl
      | some g =>
        right
        rw [h1]
        intro e
        injection e with e
        have := (World.ownsRow.lt (h.own i hi) g hq).2
        omega
  refine ⟨(hblk.set _ _).congr fun i hi => ?_, fun i hi => ?_, fun i k hi hk hik => ?_, fun i hi => ?_, fun i hi => ?_⟩
  · by_cases e : i = 24
    · subst e
      rw [if_neg (by omega)]
      simp [wF, setT]
    · simp only [wF, e, if_false, setT]
      by_cases e2 : i / 3 = th
      · subst e2
        by_cases e3 : i % 3 = 2
        · rw [if_pos (by omega)]; simp [e3]
        · rw [if_neg (by omega)]
          by_cases e4 : i % 3 = 0
          · simp [e4]
          · have : i % 3 = 1 := by omega
            simp [this]
      · rw [if_neg (by omega)]; simp [e2]
  · by_cases e : i = th
    · subst e
      simp only [setT, if_true]
      exact hown.kept fun g hg => Below.heap_setCell w2 ⟨b, i * 3 + 2, none⟩ _ g (fun e => h2b (by rw [hg, e]))
    · simp only [setT, e, if_false]
      refine (h.own i hi).kept fun g hg => ?_
      have hgw := (World.ownsRow.lt (h.own i hi) g hg).2
      rw [Below.heap_setCell w2 ⟨b, th * 3 + 2, none⟩ _ g (fun e' => h.notb hi (by rw [hg, e']))]
      refine hgr g hgw fun e' => ?_
      rcases h.apart i th hi hth e with h1 | h1
      · rw [h1] at hg; cases hg
      · exact h1 (by rw [hg, e'])
  · simp only [setT]
    by_cases e : i = th
    · subst e
      simp only [if_true, show ¬ k = i from fun e' => hik e'.symm, if_false]
      rcases hne k hk (fun e' => hik e'.symm) with h1 | h1
      · cases hq : (Value.slice A2 l2.length c2).ownBlock with
        | none => exact .inl rfl
        | some g => rw [h1]; exact .inr (fun e => by cases e)
      · exact .inr (Ne.symm h1)
    · by_cases e' : k = th
      · subst e'
        simp only [e, if_true, if_false]
        exact hne i hi e
      · simp only [e, e', if_false]
        exact h.apart i k hi hk hik
  · simp only [setT]
    by_cases e : i = th
    · simp [e]; exact hl
    · simp only [e, if_false]
      exact Nat.le_succ_of_le (h.len i hi)
  · simp only [setT]
    by_cases e : i = th
    · subst e; simp; exact h.snap i hi
    · simp only [e, if_false]; exact h.snap i hi
end Go.Proofs.Ytjifpjfinffamaa
