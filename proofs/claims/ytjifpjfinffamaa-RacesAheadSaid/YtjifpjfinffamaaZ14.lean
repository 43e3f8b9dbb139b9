/- Texts R16, laid together. -/
import Derived.Test.YtjifpjfinffamaaZ13
section
namespace Go.Proofs.Ytjifpjfinffamaa
open Go.RowKit
structure DW (w : World) (base gW baseR : Nat) (hd : Nat → Value) (ls : Nat → List Int) : Prop where
  blk : Blk w base 89 gW 6 hd
  lt : gW < baseR
  row : ∀ t, t < 4 → w.ownsRow baseR 3 1 (hd t) (ls t).length (ints (ls t))
  apart : ∀ s t, s < 4 → t < 4 → s ≠ t → (hd s).ownBlock = none ∨ (hd s).ownBlock ≠ (hd t).ownBlock
def lsF (a b c d : List Int) (t : Nat) : List Int := if t = 0 then a else if t = 1 then b else if t = 2 then c else if t = 3 then d else []
theorem lsF0 (a b c d : List Int) (x : Int) : (fun i => if i = 0 then lsF a b c d 0 ++ [x] else lsF a b c d i) = lsF (a ++ [x]) b c d := by
  funext i
  unfold lsF
  by_cases h : i = 0
  · simp [h]
  · simp [h]
theorem lsF1 (a b c d : List Int) (x : Int) : (fun i => if i = 1 then lsF a b c d 1 ++ [x] else lsF a b c d i) = lsF a (b ++ [x]) c d := by
  funext i
  unfold lsF
  by_cases h : i = 0
  · simp [h]
  · by_cases h1 : i = 1
    · simp [h1]
    · simp [h, h1]
theorem lsF2 (a b c d : List Int) (x : Int) : (fun i => if i = 2 then lsF a b c d 2 ++ [x] else lsF a b c d i) = lsF a b (c ++ [x]) d := by
  funext i
  unfold lsF
  by_cases h : i = 0
  · simp [h]
  · by_cases h1 : i = 1
    · simp [h1]
    · by_cases h2 : i = 2
      · simp [h2]
      · simp [h, h1, h2]
theorem lsF3 (a b c d : List Int) (x : Int) : (fun i => if i = 3 then lsF a b c d 3 ++ [x] else lsF a b c d i) = lsF a b c (d ++ [x]) := by
  funext i
  unfold lsF
  by_cases h : i = 3
  · simp [h]
  · simp [h]
theorem lsF3s (a b c d : List Int) (j : Nat) (x : Int) : (fun i => if i = 3 then (lsF a b c d 3).set j x else lsF a b c d i) = lsF a b c (d.set j x) := by
  funext i
  unfold lsF
  by_cases h : i = 3
  · simp [h]
  · simp [h]
section
variable {w w2 : World} {base gW baseR : Nat} {hd : Nat → Value} {ls ls' : Nat → List Int}
theorem DW.congr (h : DW w base gW baseR hd ls) (he : ∀ t, t < 4 → ls t = ls' t) : DW w base gW baseR hd ls' :=
  ⟨h.blk, h.lt, fun t ht => by rw [← he t ht]; exact h.row t ht, h.apart⟩
theorem DW.kept (h : DW w base gW baseR hd ls) {S : Nat → Prop} (he : Ex w w2 S) (h0 : ¬ S gW) (h1 : ∀ k, baseR ≤ k → k < w.heap.size → ¬ S k) : DW w2 base gW baseR hd ls :=
  ⟨h.blk.kept (he.block gW h.blk.lt.2 h0), h.lt, fun t ht => own_keep (h.row t ht) fun g hg => he.block g (World.ownsRow.lt (h.row t ht) g hg).2 (h1 g (World.ownsRow.lt (h.row t ht) g hg).1 (World.ownsRow.lt (h.row t ht) g hg).2), h.apart⟩
theorem DW.drewN (h : DW w base gW baseR hd ls) (n : Nat) : DW (w.drewN n) base gW baseR hd ls := ⟨h.blk.kept rfl, h.lt, fun t ht => own_keep (h.row t ht) fun _ _ => rfl, h.apart⟩
theorem DW.c (h : DW w base gW baseR hd ls) {t : Nat} (ht : t < 6) : w.cell? ⟨gW, t, none⟩ = some (hd t) ∧ w.frozen? ⟨gW, t, none⟩ = false := h.blk.cell ht
theorem DW.put (h : DW w base gW baseR hd ls) {t : Nat} (ht : 4 ≤ t) (v : Value) : DW (w.setCell ⟨gW, t, none⟩ v) base gW baseR (fun i => if i = t then v else hd i) ls := by
  have hset : ∀ k, k ≠ gW → (w.setCell ⟨gW, t, none⟩ v).heap[k]? = w.heap[k]? := fun k hk => Below.heap_setCell w ⟨gW, t, none⟩ v k hk
  refine ⟨h.blk.set t v, h.lt, fun i hi => ?_, fun i j hi hj hij => ?_⟩
  · rw [if_neg (by omega)]
    exact own_keep (h.row i hi) fun g hg => hset g (by have := (World.ownsRow.lt (h.row i hi) g hg).1; have := h.lt; omega)
  · rw [if_neg (by omega), if_neg (by omega)]
    exact h.apart i j hi hj hij
theorem DW.step (h : DW w base gW baseR hd ls) {t : Nat} {x : Int} (ht : t < 4) {v : Value} (hg : w.grownBy w2 (hd t).ownBlock) (ho : w2.ownsRow baseR 3 1 v ((ls t).length + 1) (ints (ls t) ++ [.int .i64 x]))
    (hv : v.ownBlock = (hd t).ownBlock ∨ ∃ g, v.ownBlock = some g ∧ w.heap.size ≤ g) : DW (w2.setCell ⟨gW, t, none⟩ v) base gW baseR (fun i => if i = t then v else hd i) (fun i => if i = t then ls t ++ [x] else ls i) := by
  have hgl := h.blk.lt
  have hfar : ∀ i, i < 4 → ∀ g, (hd i).ownBlock = some g → baseR ≤ g ∧ g < w.heap.size := fun i hi g hg => (h.row i hi).lt g hg
  have hne0 : (hd t).ownBlock ≠ some gW := fun e => by have := (hfar t ht _ e).1; have := h.lt; omega
  have hvO : v.ownBlock ≠ some gW := by
    rcases hv with h1 | ⟨g, h1, h2⟩
    · rw [h1]; exact hne0
    · rw [h1]; intro e; injection e with e; omega
  have hset : ∀ k, k ≠ gW → (w2.setCell ⟨gW, t, none⟩ v).heap[k]? = w2.heap[k]? := fun k hk => Below.heap_setCell w2 ⟨gW, t, none⟩ v k hk
  refine ⟨(h.blk.kept (hg.block gW hgl.2 (fun e => hne0 e.symm))).set t v, h.lt, fun i hi => ?_, fun i j hi hj hij => ?_⟩
  · by_cases e : i = t
    · subst e
      simp only [if_true]
      have hr : w2.ownsRow baseR 3 1 v (ls i ++ [x]).length (ints (ls i ++ [x])) := by
        have : ints (ls i ++ [x]) = ints (ls i) ++ [.int .i64 x] := by simp [ints]
        rw [this, List.length_append]
        exact ho
      exact own_keep hr fun g hg => hset g (fun e => hvO (by rw [hg, e]))
    · simp only [if_neg e]
      refine own_keep (h.row i hi) fun g hg' => ?_
      have hf := hfar i hi g hg'
      refine (hset g (by have := h.lt; omega)).trans (hg.block g hf.2 fun e2 => ?_)
      rcases h.apart i t hi ht e with h4 | h4
      · rw [hg'] at h4; cases h4
      · exact h4 (by rw [← e2, hg'])
  · by_cases e1 : i = t
    · subst e1
      rw [if_pos rfl, if_neg (Ne.symm hij)]
      rcases hv with h1 | ⟨g, h1, h2⟩
      · rw [h1]; exact h.apart i j hi hj hij
      · right
        rw [h1]
        intro e
        have := (hfar j hj g e.symm).2
        omega
    · rw [if_neg e1]
      by_cases e2 : j = t
      · subst e2
        rw [if_pos rfl]
        rcases hv with h1 | ⟨g, h1, h2⟩
        · rw [h1]; exact h.apart i j hi hj hij
        · right
          rw [h1]
          intro e
          have := (hfar i hi g e).2
          omega
      · rw [if_neg e2]
        exact h.apart i j hi hj hij
theorem DW.set3 (h : DW w base gW baseR hd ls) {g m c : Nat} (he : hd 3 = .slice (some ⟨g, 0, none⟩) m c) (j : Nat) (x : Int) :
    DW (w.setCell ⟨g, j, none⟩ (.int .i64 x)) base gW baseR hd (fun i => if i = 3 then (ls 3).set j x else ls i) := by
  have hr3 := h.row 3 (by omega)
  rw [he] at hr3
  obtain ⟨A, c', hv⟩ := own_shape hr3
  have hm : m = (ls 3).length := by injection hv
  subst hm
  have hg3 := World.ownsRow.lt hr3 g rfl
  have hset : ∀ k, k ≠ g → (w.setCell ⟨g, j, none⟩ (.int .i64 x)).heap[k]? = w.heap[k]? := fun k hk => Below.heap_setCell w ⟨g, j, none⟩ _ k hk
  refine ⟨h.blk.kept (hset gW (by have := h.lt; omega)), h.lt, fun i hi => ?_, h.apart⟩
  by_cases e : i = 3
  · subst e
    simp only [if_true]
    rw [he]
    have := (show OwnI w baseR (some ⟨g, 0, none⟩) c (ls 3) from hr3).setAt j x
    unfold OwnI at this
    rw [List.length_set] at this
    rw [List.length_set]
    exact this
  · simp only [if_neg e]
    refine own_keep (h.row i hi) fun k hk => hset k fun e2 => ?_
    rcases h.apart i 3 hi (by omega) e with h4 | h4
    · rw [hk] at h4; cases h4
    · apply h4
      rw [hk, he, e2]
      rfl
theorem DW.at_ (h : DW w base gW baseR hd ls) {t : Nat} (ht : t < 4) : ∃ A c, hd t = .slice A (ls t).length c ∧ ∀ j x, (ls t)[j]? = some x → ∃ g, A = some ⟨g, 0, none⟩ ∧ baseR ≤ g ∧ g < w.heap.size ∧ w.cell? ⟨g, j, none⟩ = some (.int .i64 x) ∧ w.frozen? ⟨g, j, none⟩ = false := by
  have hr := h.row t ht
  obtain ⟨A, c, hv⟩ := own_shape hr
  refine ⟨A, c, hv, fun j x hj => ?_⟩
  rw [hv] at hr
  have hjl := (List.getElem?_eq_some_iff.1 hj).1
  obtain ⟨g, cap, hv', hbg, hlt⟩ := World.ownsRow.form hr (by omega)
  have hA : A = some ⟨g, 0, none⟩ := by injection hv'
  subst hA
  refine ⟨g, rfl, hbg, hlt, ?_, World.ownsRow.frozenAt hr j⟩
  rw [World.ownsRow.cellAt hr j (by simpa using hjl)]
  simp [ints, hj]
end
structure MB (w : World) (B : Nat) (A : Option Addr) (c n k : Nat) (gr : Nat → Nat) (M : Nat → Nat → Bool) : Prop where
  row : w.ownsRow B 90 1 (.slice A k c) k ((List.range k).map fun i => Value.slice (some ⟨gr i, 0, none⟩) n n)
  cells : ∀ i, i < k → Blk w B 4 (gr i) n (fun j => .bool (M i j))
  inj : ∀ i j, i < k → j < k → i ≠ j → gr i ≠ gr j
theorem info90 : (Try.prog.info? 90).map (fun i => (i.zero, i.size, i.bytes)) = some (some (.slice none 0 0), 1, 24) := by kernel_rfl
section
variable {w w2 : World} {B : Nat} {A : Option Addr} {c n k : Nat} {gr : Nat → Nat} {M M' : Nat → Nat → Bool}
theorem MB.nil (w : World) (B n : Nat) (gr : Nat → Nat) (M : Nat → Nat → Bool) : MB w B none 0 n 0 gr M := ⟨World.ownsRow_nil w B 90 1, fun i hi => by omega, fun i _ hi => by omega⟩
theorem MB.keep (h : MB w B A c n k gr M) (hk : ∀ g, B ≤ g → g < w.heap.size → w2.heap[g]? = w.heap[g]?) : MB w2 B A c n k gr M :=
  ⟨own_keep h.row fun g hg => hk g (World.ownsRow.lt h.row g hg).1 (World.ownsRow.lt h.row g hg).2, fun i hi => (h.cells i hi).kept (hk _ (h.cells i hi).lt.1 (h.cells i hi).lt.2), h.inj⟩
theorem MB.congr (h : MB w B A c n k gr M) (he : ∀ i j, i < k → j < n → M i j = M' i j) : MB w B A c n k gr M' :=
  ⟨h.row, fun i hi => (h.cells i hi).congr fun j hj => by rw [he i j hi hj], h.inj⟩
theorem MB.far (h : MB w B A c n k gr M) {i : Nat} (hi : i < k) : (Value.slice A k c).ownBlock ≠ some (gr i) := by
  intro e
  exact own_far h.row (h.cells i hi) (by decide) (gr i) e rfl
theorem MB.at_ (h : MB w B A c n k gr M) {p : Nat} (hp : p < k) : ∃ g, A = some ⟨g, 0, none⟩ ∧ (B ≤ g ∧ g < w.heap.size) ∧ w.cell? ⟨g, p, none⟩ = some (.slice (some ⟨gr p, 0, none⟩) n n) ∧ (B ≤ gr p ∧ gr p < w.heap.size) ∧ ∀ q, q < n → w.cell? ⟨gr p, q, none⟩ = some (.bool (M p q)) ∧ w.frozen? ⟨gr p, q, none⟩ = false := by
  obtain ⟨g, cap, hv, hbg, hlt⟩ := World.ownsRow.form h.row (by omega)
  have hA : A = some ⟨g, 0, none⟩ := by injection hv
  subst hA
  refine ⟨g, rfl, ⟨hbg, hlt⟩, ?_, (h.cells p hp).lt, fun q hq => (h.cells p hp).cell hq⟩
  rw [World.ownsRow.cellAt h.row p (by simpa using hp)]
  simp [hp]
theorem MB.set (h : MB w B A c n k gr M) {p : Nat} (hp : p < k) (q : Nat) (b : Bool) : MB (w.setCell ⟨gr p, q, none⟩ (.bool b)) B A c n k gr (fun i j => if i = p ∧ j = q then b else M i j) := by
  have hset : ∀ g, g ≠ gr p → (w.setCell ⟨gr p, q, none⟩ (.bool b)).heap[g]? = w.heap[g]? := fun g hg => Below.heap_setCell w ⟨gr p, q, none⟩ _ g hg
  refine ⟨own_keep h.row fun g hg => hset g fun e => h.far hp (by rw [hg, e]), fun i hi => ?_, h.inj⟩
  by_cases e : i = p
  · subst e
    refine ((h.cells i hi).set q (.bool b)).congr fun j _ => ?_
    by_cases e2 : j = q
    · subst e2
      rw [if_pos rfl, if_pos ⟨rfl, rfl⟩]
    · rw [if_neg e2, if_neg (fun h => e2 h.2)]
  · refine ((h.cells i hi).kept (hset _ (h.inj i p hi hp e))).congr fun j _ => ?_
    rw [if_neg (fun h => e h.1)]
theorem MB.push {w1 : World} {g c2 b : Nat} (h : MB w B A c n k gr M) (hb : w.heap.size ≤ b) (hw : ∀ j, j < w.heap.size → w1.heap[j]? = w.heap[j]?) (hr : Blk w1 B 4 b n (fun j => .bool (M k j))) (hg : w1.grownBy w2 (Value.slice A k c).ownBlock)
    (ho : w2.ownsRow B 90 1 (.slice (some ⟨g, 0, none⟩) (k + 1) c2) (k + 1) (((List.range k).map fun i => Value.slice (some ⟨gr i, 0, none⟩) n n) ++ [.slice (some ⟨b, 0, none⟩) n n])) : MB w2 B (some ⟨g, 0, none⟩) c2 n (k + 1) (fun i => if i = k then b else gr i) M := by
  have hk : ∀ i, i < k → w2.heap[gr i]? = w.heap[gr i]? := fun i hi => (hg.block _ (by
    have h1 := (h.cells i hi).lt.2
    have h2 := Array.getElem?_eq_some_iff.1 ((hw _ h1).trans (Array.getElem?_eq_getElem h1))
    exact h2.1) (fun e => h.far hi e.symm)).trans (hw _ (h.cells i hi).lt.2)
  have hkb : w2.heap[b]? = w1.heap[b]? := hg.block b hr.lt.2 fun e => by
    have := (World.ownsRow.lt h.row b e.symm).2
    omega
  refine ⟨?_, fun i hi => ?_, fun i j hi hj hij => ?_⟩
  · have e : (List.range (k + 1)).map (fun i => Value.slice (some ⟨if i = k then b else gr i, 0, none⟩) n n) = ((List.range k).map fun i => Value.slice (some ⟨gr i, 0, none⟩) n n) ++ [.slice (some ⟨b, 0, none⟩) n n] := by
      rw [List.range_succ, List.map_append]
      congr 1
      · refine List.map_congr_left fun i hi => ?_
        rw [if_neg (by have := List.mem_range.1 hi; omega)]
      · simp
    rw [e]
    exact ho
  · by_cases e : i = k
    · subst e
      simp only [if_true]
      exact hr.kept hkb
    · simp only [if_neg e]
      exact (h.cells i (by omega)).kept (hk i (by omega))
  · show (if i = k then b else gr i) ≠ (if j = k then b else gr j)
    by_cases e1 : i = k
    · subst e1
      rw [if_pos rfl, if_neg (by omega)]
      have := (h.cells j (by omega)).lt.2
      omega
    · rw [if_neg e1]
      by_cases e2 : j = k
      · rw [if_pos e2]
        have := (h.cells i (by omega)).lt.2
        omega
      · rw [if_neg e2]
        exact h.inj i j (by omega) (by omega) hij
end
theorem Blk.made (w : World) (n : Nat) : Blk (w.alloc (.cells (madeCells #[.bool false] n) 4)) w.heap.size 4 w.heap.size n (fun _ => .bool false) := by
  have hds : (madeCells #[Value.bool false] n).toList = List.replicate n (.bool false) := by
    rw [toList_madeCells_one]
  refine Blk.of_heap (heap_at _ _ _ rfl) (Nat.le_refl _) ?_ fun i hi => ?_
  · rw [← Array.length_toList, hds, List.length_replicate]
  · rw [← Array.getElem?_toList, hds, List.getElem?_replicate, if_pos hi]
def lsP (L : List Pt) (of : List Int) : Nat → List Int := lsF (L.map Pt.th) (L.map fun x => (x.fi : Int)) (L.map Pt.bk) of
structure WI (W2 wr : World) (base gW baseR : Nat) (hd : Nat → Value) (vb : Value) (ls : Nat → List Int) : Prop where
  dw : DW wr base gW baseR hd ls
  h4 : hd 4 = .slice none 0 0
  h5 : hd 5 = vb
  ex : Ex W2 wr (fun j => j = gW)
section
variable {W2 wr w3 wx : World} {base gW baseR : Nat} {hd : Nat → Value} {vb : Value} {ls ls' : Nat → List Int}
theorem WI.congr (h : WI W2 wr base gW baseR hd vb ls) (he : ls = ls') : WI W2 wr base gW baseR hd vb ls' := he ▸ h
theorem WI.drewN (h : WI W2 wr base gW baseR hd vb ls) (n : Nat) : WI W2 (wr.drewN n) base gW baseR hd vb ls := ⟨h.dw.drewN n, h.h4, h.h5, h.ex.drewN n⟩
theorem WI.drew (h : WI W2 wr base gW baseR hd vb ls) : WI W2 wr.drew base gW baseR hd vb ls := ⟨h.dw.kept ((Ex.refl wr (fun _ => False)).drew) (fun h => h) (fun _ _ _ h => h), h.h4, h.h5, h.ex.drew⟩
theorem WI.below (h : WI W2 wr base gW baseR hd vb ls) (hb : Below wr.heap.size wr w3) : WI W2 w3 base gW baseR hd vb ls :=
  ⟨h.dw.kept (Below.ex (S := fun _ => False) hb) (fun h => h) (fun _ _ _ h => h), h.h4, h.h5, h.ex.trans (Below.ex (S := fun _ => False) hb) (fun _ _ h => h.elim)⟩
theorem WI.rb {lo : Nat} {A : Option Addr} {n : Nat} {L : List Bl} {hb : Nat → Value} (h : WI W2 wr base gW baseR hd vb ls) (hr : RB W2 lo W2.heap.size A n L hb) (hlo : gW < lo) : RB wr lo W2.heap.size A n L hb :=
  hr.keep fun p h1 h2 => h.ex.cell h2 (by show p.block ≠ gW; omega)
theorem WI.ev {A : Option Addr} {l : List Ev} (h : WI W2 wr base gW baseR hd vb ls) (hr : EvR W2 gW A l) (hg : gW ≤ W2.heap.size) : EvR wr gW A l :=
  hr.keep fun p h1 => h.ex.cell (by omega) (by show p.block ≠ gW; omega)
theorem WI.cell (h : WI W2 wr base gW baseR hd vb ls) {t : Nat} (ht : t < 4) : ∃ A m c, m = (ls t).length ∧ hd t = .slice A m c ∧ wr.cell? ⟨gW, t, none⟩ = some (.slice A m c) ∧ wr.frozen? ⟨gW, t, none⟩ = false ∧ wr.ownsRow baseR 3 1 (.slice A m c) m (ints (ls t)) := by
  have hr := h.dw.row t ht
  obtain ⟨A, c, hv⟩ := own_shape hr
  refine ⟨A, _, c, rfl, hv, ?_, (h.dw.c (t := t) (by omega)).2, by rw [← hv]; exact hr⟩
  rw [← hv]
  exact (h.dw.c (t := t) (by omega)).1
theorem WI.c5 (h : WI W2 wr base gW baseR hd vb ls) : wr.cell? ⟨gW, 5, none⟩ = some vb := by
  rw [← h.h5]
  exact (h.dw.c (t := 5) (by omega)).1
theorem WI.push (h : WI W2 wr base gW baseR hd vb ls) (hs : W2.heap.size = baseR) {t : Nat} (ht : t < 4) {A : Option Addr} {m c : Nat} (hm : m = (ls t).length) (hv : hd t = .slice A m c) (hgx : wr.grownBy wx (Value.slice A m c).ownBlock) {g cap : Nat} {x : Int}
    (ho : w3.ownsRow baseR 3 1 (.slice (some ⟨g, 0, none⟩) (m + 1) cap) (m + 1) (ints (ls t) ++ [.int .i64 x])) (htwo : ((Value.slice A m c).ownBlock = some g ∧ wx.grownBy w3 (some g)) ∨ (g = wx.heap.size ∧ wx.grownBy w3 none)) :
    WI W2 (w3.setCell ⟨gW, t, none⟩ (.slice (some ⟨g, 0, none⟩) (m + 1) cap)) base gW baseR (fun i => if i = t then .slice (some ⟨g, 0, none⟩) (m + 1) cap else hd i) vb (fun i => if i = t then ls t ++ [x] else ls i) := by
  have hgr := grown_trans hgx (two_grown htwo)
  have hr := h.dw.row t ht
  rw [hv] at hr
  refine ⟨h.dw.step ht (by rw [hv]; exact hgr) (by rw [← hm]; exact ho) ?_, ?_, ?_, ?_⟩
  · rw [hv]
    rcases htwo with h1 | h1
    · exact .inl h1.1.symm
    · refine .inr ⟨g, rfl, ?_⟩
      rw [h1.1]
      exact hgx.size
  · rw [if_neg (by omega)]; exact h.h4
  · rw [if_neg (by omega)]; exact h.h5
  · refine (h.ex.grown hgr fun k h1 h2 => ?_).set _ _ fun _ => rfl
    have := (World.ownsRow.lt hr k h1).1
    omega
theorem WI.old (h : WI W2 wr base gW baseR hd vb ls) {t : Nat} (ht : t < 4) {A : Option Addr} {m c : Nat} (hv : hd t = .slice A m c) (hgx : wr.grownBy wx (Value.slice A m c).ownBlock) {g : Nat}
    (htwo : ((Value.slice A m c).ownBlock = some g ∧ wx.grownBy w3 (some g)) ∨ (g = wx.heap.size ∧ wx.grownBy w3 none)) : w3.cell? ⟨gW, t, none⟩ = some (.slice A m c) ∧ w3.frozen? ⟨gW, t, none⟩ = false := by
  have hgr := grown_trans hgx (two_grown htwo)
  have hr := h.dw.row t ht
  rw [hv] at hr
  have hb := hgr.block gW h.dw.blk.lt.2 fun e => by
    have := (World.ownsRow.lt hr gW e.symm).1
    have := h.dw.lt
    omega
  have hc := h.dw.c (t := t) (by omega)
  rw [hv] at hc
  exact ⟨(World.cell?_of_block (a := ⟨gW, t, none⟩) hb).trans hc.1, (World.frozen?_of_block (a := ⟨gW, t, none⟩) hb).trans hc.2⟩
theorem WI.set3 (h : WI W2 wr base gW baseR hd vb ls) (hs : W2.heap.size = baseR) {g m c : Nat} (he : hd 3 = .slice (some ⟨g, 0, none⟩) m c) (j : Nat) (x : Int) :
    WI W2 (wr.setCell ⟨g, j, none⟩ (.int .i64 x)) base gW baseR hd vb (fun i => if i = 3 then (ls 3).set j x else ls i) := by
  refine ⟨h.dw.set3 he j x, h.h4, h.h5, h.ex.set _ _ fun hlt => ?_⟩
  have hr := h.dw.row 3 (by omega)
  rw [he] at hr
  have := (World.ownsRow.lt hr g rfl).1
  have : g < W2.heap.size := hlt
  omega
end
structure WM (W5 wr : World) (gW : Nat) (hd : Nat → Value) (A : Option Addr) (c n k : Nat) (gr : Nat → Nat) (M : Nat → Nat → Bool) : Prop where
  lt : gW < W5.heap.size
  ex : Ex W5 wr (fun j => j = gW)
  mb : MB wr W5.heap.size A c n k gr M
  c4 : wr.cell? ⟨gW, 4, none⟩ = some (.slice A k c) ∧ wr.frozen? ⟨gW, 4, none⟩ = false
  cs : ∀ t, t < 6 → t ≠ 4 → wr.cell? ⟨gW, t, none⟩ = some (hd t)
section
variable {W5 wr w3 wx : World} {base gW baseR : Nat} {hd : Nat → Value} {ls : Nat → List Int} {A : Option Addr} {c n k : Nat} {gr : Nat → Nat} {M M' : Nat → Nat → Bool}
theorem WM.start {vb : Value} {W2 : World} (h : WI W2 W5 base gW baseR hd vb ls) (n : Nat) (gr : Nat → Nat) (M : Nat → Nat → Bool) : WM W5 W5 gW hd none 0 n 0 gr M := by
  refine ⟨h.dw.blk.lt.2, Ex.refl _ _, MB.nil _ _ _ _ _, ?_, fun t ht _ => (h.dw.c ht).1⟩
  have := h.dw.c (t := 4) (by omega)
  rw [h.h4] at this
  exact this
theorem WM.congr (h : WM W5 wr gW hd A c n k gr M) (he : ∀ i j, i < k → j < n → M i j = M' i j) : WM W5 wr gW hd A c n k gr M' := ⟨h.lt, h.ex, h.mb.congr he, h.c4, h.cs⟩
theorem WM.keep (h : WM W5 wr gW hd A c n k gr M) (he : Ex wr w3 (fun _ => False)) : WM W5 w3 gW hd A c n k gr M := by
  have hg := Nat.lt_of_lt_of_le h.lt h.ex.size
  have hb := he.block gW hg (fun h => h)
  exact ⟨h.lt, h.ex.trans he (fun _ _ h => h.elim), h.mb.keep fun g _ h2 => he.block g h2 (fun h => h), ⟨(World.cell?_of_block (a := ⟨gW, 4, none⟩) hb).trans h.c4.1, (World.frozen?_of_block (a := ⟨gW, 4, none⟩) hb).trans h.c4.2⟩, fun t h1 h2 => (World.cell?_of_block (a := ⟨gW, t, none⟩) hb).trans (h.cs t h1 h2)⟩
theorem WM.drewN (h : WM W5 wr gW hd A c n k gr M) (m : Nat) : WM W5 (wr.drewN m) gW hd A c n k gr M := h.keep ((Ex.refl wr _).drewN m)
theorem WM.drew (h : WM W5 wr gW hd A c n k gr M) : WM W5 wr.drew gW hd A c n k gr M := h.keep ((Ex.refl wr _).drew)
theorem WM.below (h : WM W5 wr gW hd A c n k gr M) (hb : Below wr.heap.size wr w3) : WM W5 w3 gW hd A c n k gr M := h.keep (Below.ex hb)
theorem WM.set (h : WM W5 wr gW hd A c n k gr M) {p : Nat} (hp : p < k) (q : Nat) (b : Bool) : WM W5 (wr.setCell ⟨gr p, q, none⟩ (.bool b)) gW hd A c n k gr (fun i j => if i = p ∧ j = q then b else M i j) := by
  have hg := Nat.lt_of_lt_of_le h.lt h.ex.size
  have hpB := (h.mb.cells p hp).lt
  have hb := Below.heap_setCell wr ⟨gr p, q, none⟩ (.bool b) gW (by show gW ≠ gr p; have := h.lt; omega)
  exact ⟨h.lt, h.ex.set _ _ (fun h1 => absurd h1 (by show ¬ gr p < _; omega)), h.mb.set hp q b, ⟨(World.cell?_of_block (a := ⟨gW, 4, none⟩) hb).trans h.c4.1, (World.frozen?_of_block (a := ⟨gW, 4, none⟩) hb).trans h.c4.2⟩, fun t h1 h2 => (World.cell?_of_block (a := ⟨gW, t, none⟩) hb).trans (h.cs t h1 h2)⟩
theorem WM.at_ (h : WM W5 wr gW hd A c n k gr M) (hd0 : DW W5 base gW baseR hd ls) {t : Nat} (ht : t < 4) : ∃ A c, wr.cell? ⟨gW, t, none⟩ = some (.slice A (ls t).length c) ∧ ∀ j x, (ls t)[j]? = some x → ∃ g, A = some ⟨g, 0, none⟩ ∧ g < wr.heap.size ∧ wr.cell? ⟨g, j, none⟩ = some (.int .i64 x) := by
  obtain ⟨A, c, hv, hr⟩ := hd0.at_ ht
  refine ⟨A, c, by rw [← hv]; exact h.cs t (by omega) (by omega), fun j x hj => ?_⟩
  obtain ⟨g, h1, h2, h3, h4, _⟩ := hr j x hj
  exact ⟨g, h1, Nat.lt_of_lt_of_le h3 h.ex.size, (h.ex.cell (p := ⟨g, j, none⟩) h3 (by show g ≠ gW; have := hd0.lt; omega)).trans h4⟩
theorem WM.push {w1 : World} {g c2 b : Nat} (h : WM W5 wr gW hd A c n k gr M) (hb : wr.heap.size ≤ b) (hw : ∀ j, j < wr.heap.size → w1.heap[j]? = wr.heap[j]?) (he : Ex wr w1 (fun _ => False)) (hr : Blk w1 W5.heap.size 4 b n (fun j => .bool (M k j))) (hg : w1.grownBy w3 (Value.slice A k c).ownBlock)
    (ho : w3.ownsRow W5.heap.size 90 1 (.slice (some ⟨g, 0, none⟩) (k + 1) c2) (k + 1) (((List.range k).map fun i => Value.slice (some ⟨gr i, 0, none⟩) n n) ++ [.slice (some ⟨b, 0, none⟩) n n])) :
    WM W5 (w3.setCell ⟨gW, 4, none⟩ (.slice (some ⟨g, 0, none⟩) (k + 1) c2)) gW hd (some ⟨g, 0, none⟩) c2 n (k + 1) (fun i => if i = k then b else gr i) M ∧ w3.cell? ⟨gW, 4, none⟩ = some (.slice A k c) ∧ w3.frozen? ⟨gW, 4, none⟩ = false := by
  have hgs := Nat.lt_of_lt_of_le h.lt h.ex.size
  have hne : (Value.slice A k c).ownBlock ≠ some gW := fun e => by
    have := (World.ownsRow.lt h.mb.row gW e).1
    have := h.lt
    omega
  have hbl : w3.heap[gW]? = wr.heap[gW]? := (hg.block gW (by have := he.size; omega) (fun e => hne e.symm)).trans (hw gW hgs)
  have hmb := h.mb.push hb hw hr hg ho
  have h4 : w3.cell? ⟨gW, 4, none⟩ = some (.slice A k c) := (World.cell?_of_block (a := ⟨gW, 4, none⟩) hbl).trans h.c4.1
  have h4f : w3.frozen? ⟨gW, 4, none⟩ = false := (World.frozen?_of_block (a := ⟨gW, 4, none⟩) hbl).trans h.c4.2
  have hset : ∀ j, j ≠ gW → (w3.setCell ⟨gW, 4, none⟩ (.slice (some ⟨g, 0, none⟩) (k + 1) c2)).heap[j]? = w3.heap[j]? := fun j hj => Below.heap_setCell w3 ⟨gW, 4, none⟩ _ j hj
  refine ⟨⟨h.lt, ?_, hmb.keep fun j hj _ => hset j (by have := h.lt; omega), ?_, fun t h1 h2 => ?_⟩, h4, h4f⟩
  · refine ((h.ex.trans he (fun _ _ h => h.elim)).grown hg fun j h1 h2 => ?_).set _ _ fun _ => rfl
    have := (World.ownsRow.lt h.mb.row j h1).1
    omega
  · have hsz : gW < w3.heap.size := Nat.lt_of_lt_of_le hgs (Nat.le_trans he.size hg.size)
    exact ⟨World.cell?_setCell_same _ _ _ h4, by rw [World.frozen?_setCell]; exact h4f⟩
  · refine (World.cell?_setCell_other _ _ _ _ (by intro e; injection e with _ e; omega)).trans ?_
    exact (World.cell?_of_block (a := ⟨gW, t, none⟩) hbl).trans (h.cs t h1 h2)
end
def bP (B : Nat → Nat → Bool) (p q : Nat) : Nat → Nat → Bool := fun i j => if i < p ∨ (i = p ∧ j < q) then B i j else false
theorem bP_at (B : Nat → Nat → Bool) (p q : Nat) : bP B p q p q = false := by
  unfold bP
  rw [if_neg (by omega)]
theorem bP_step (B : Nat → Nat → Bool) (p q : Nat) (b : Bool) (hb : B p q = b) : (fun i j => if i = p ∧ j = q then b else bP B p q i j) = bP B p (q + 1) := by
  subst hb
  funext i j
  unfold bP
  by_cases h : i = p ∧ j = q
  · obtain ⟨rfl, rfl⟩ := h
    rw [if_pos ⟨rfl, rfl⟩, if_pos (by omega)]
  · rw [if_neg h]
    by_cases h2 : i < p ∨ (i = p ∧ j < q)
    · rw [if_pos h2, if_pos (by omega)]
    · rw [if_neg h2, if_neg (by omega)]
theorem bP_none (B : Nat → Nat → Bool) (p q : Nat) (hb : B p q = false) : bP B p q = bP B p (q + 1) := by
  rw [← bP_step B p q false hb]
  funext i j
  by_cases h : i = p ∧ j = q
  · obtain ⟨rfl, rfl⟩ := h
    rw [if_pos ⟨rfl, rfl⟩, bP_at]
  · rw [if_neg h]
end Go.Proofs.Ytjifpjfinffamaa
end
