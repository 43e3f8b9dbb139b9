/- Memory of the law of layer 15: what is told is written over. -/
import Derived.Test.YtjifpjfinffamaaYI
namespace Go.Proofs.Ytjifpjfinffamaa
open Go.RowKit

/-- nothing but blocks from lo on and below hi has changed -/
structure Kp (a b : World) (lo hi : Nat) : Prop where
  os : b.os = a.os
  tape : b.tape = a.tape
  output : b.output = a.output
  size : b.heap.size = a.heap.size
  block : ∀ k, k < lo ∨ hi ≤ k → b.heap[k]? = a.heap[k]?
theorem Kp.refl (a : World) (lo hi : Nat) : Kp a a lo hi := ⟨rfl, rfl, rfl, rfl, fun _ _ => rfl⟩
theorem Kp.set {a b : World} {lo hi : Nat} (h : Kp a b lo hi) (p : Addr) (v : Value) (h1 : lo ≤ p.block) (h2 : p.block < hi) : Kp a (b.setCell p v) lo hi :=
  ⟨h.os, h.tape, h.output, by simpa using h.size, fun k hk => (Below.heap_setCell b p v k (by omega)).trans (h.block k hk)⟩
theorem Kp.drewN {a b : World} {lo hi : Nat} (h : Kp a b lo hi) (m : Nat) : Kp a (b.drewN m) lo hi := ⟨h.os, h.tape, h.output, h.size, h.block⟩
theorem Kp.below {w a b : World} {lo hi B : Nat} (h : Kp a b lo hi) (hb : Below B w a) (hB : B ≤ lo) : Below B w b :=
  ⟨h.os.trans hb.os, h.tape.trans hb.tape, h.output.trans hb.output, by rw [h.size]; exact hb.size, fun k hk => (h.block k (.inl (by omega))).trans (hb.block k hk)⟩
theorem Kp.ownI {a b : World} {lo hi base : Nat} {A : Option Addr} {c : Nat} {xs : List Int} (h : Kp a b lo hi) (ho : OwnI a base A c xs) (hlo : hi ≤ base) : OwnI b base A c xs :=
  ho.keep' fun g hg => h.block g (.inr (by have := (ho.lt g hg).1; omega))
theorem Kp.rb {a b : World} {lo hi l0 B : Nat} {A : Option Addr} {n : Nat} {L : List Bl} {hd : Nat → Value} (h : Kp a b lo hi) (hr : RB a l0 B A n L hd) (hlo : hi ≤ l0 ∨ B ≤ lo) : RB b l0 B A n L hd :=
  hr.keep fun p h1 h2 => World.cell?_of_block (w := a) (h.block p.block (by omega))

/-- blocks that were told: block i0 and those behind it still lead to their lists -/
structure LO (w : World) (base hi : Nat) (A : Option Addr) (n c : Nat) (hd : Nat → Value) (i0 : Nat) : Prop where
  row : ∃ xs, w.ownsRow base 43 9 (.slice A n c) n xs ∧ ∀ j, i0 ≤ j → j < n → xs[j * 9 + 7]? = some (hd (2 * j)) ∧ xs[j * 9 + 8]? = some (hd (2 * j + 1))
  own : ∀ i, i < 2 * n → ∃ m ys, w.ownsRow base 47 3 (hd i) m ys
  apart : ∀ i k, i < 2 * n → k < 2 * n → i ≠ k → Ap (hd i) (hd k)
  rhi : ∀ g, (Value.slice A n c).ownBlock = some g → g < hi
  ohi : ∀ i, i < 2 * n → ∀ g, (hd i).ownBlock = some g → g < hi
section
variable {w : World} {base hi : Nat} {A : Option Addr} {n c : Nat} {hd : Nat → Value} {i0 : Nat}
theorem LO.of {w1 : World} {L : List Bl} (h : HB w1 base A n c L hd) (hb : Below w1.heap.size w1 w) : LO w base w1.heap.size A n c hd 0 := by
  have h' := h.below (Nat.le_refl _) hb
  refine ⟨⟨_, h'.row, fun j _ hj => ?_⟩, fun i hi => ⟨_, _, h'.own i hi⟩, h.apart, fun g hg => (h.row.lt g hg).2, fun i hi g hg => ((h.own i hi).lt g hg).2⟩
  constructor
  · simp only [List.getElem?_map, List.getElem?_range (show j * 9 + 7 < n * 9 by omega), Option.map_some, bF_at _ _ j 7 (by decide)]
    rfl
  · simp only [List.getElem?_map, List.getElem?_range (show j * 9 + 8 < n * 9 by omega), Option.map_some, bF_at _ _ j 8 (by decide)]
    rfl
theorem LO.drewN (h : LO w base hi A n c hd i0) (m : Nat) : LO (w.drewN m) base hi A n c hd i0 := ⟨h.row, h.own, h.apart, h.rhi, h.ohi⟩
/-- block j: where it lies -/
theorem LO.at_ (h : LO w base hi A n c hd i0) {j : Nat} (hj : i0 ≤ j) (hn : j < n) :
    ∃ g v0 v1 v2 v3 v4 v5 v6 Ar nr cr At nt ct, A = some ⟨g, 0, none⟩ ∧ base ≤ g ∧ g < hi ∧ hd (2 * j) = .slice Ar nr cr ∧ hd (2 * j + 1) = .slice At nt ct ∧
      (w.cell? ⟨g, j * 9, none⟩ = some v0 ∧ w.cell? ⟨g, j * 9 + 1, none⟩ = some v1 ∧ w.cell? ⟨g, j * 9 + 2, none⟩ = some v2 ∧ w.cell? ⟨g, j * 9 + 3, none⟩ = some v3 ∧ w.cell? ⟨g, j * 9 + 4, none⟩ = some v4 ∧ w.cell? ⟨g, j * 9 + 5, none⟩ = some v5 ∧ w.cell? ⟨g, j * 9 + 6, none⟩ = some v6 ∧
        w.cell? ⟨g, j * 9 + 7, none⟩ = some (.slice Ar nr cr) ∧ w.cell? ⟨g, j * 9 + 8, none⟩ = some (.slice At nt ct)) ∧ ∀ t, w.frozen? ⟨g, t, none⟩ = false := by
  obtain ⟨xs, hr, hx⟩ := h.row
  obtain ⟨g, cap, hv, hbg, hlt⟩ := hr.form (by omega)
  have hA : A = some ⟨g, 0, none⟩ := by injection hv
  subst hA
  obtain ⟨lr, _, hlr⟩ := h.own (2 * j) (by omega)
  obtain ⟨lt, _, hlt'⟩ := h.own (2 * j + 1) (by omega)
  obtain ⟨Ar, cr, er⟩ := own_shape hlr
  obtain ⟨At, ct, et⟩ := own_shape hlt'
  obtain ⟨h7, h8⟩ := hx j hj hn
  rw [er] at h7
  rw [et] at h8
  have hlen := hr.1
  have hc : ∀ t, (ht : t < 9) → w.cell? ⟨g, j * 9 + t, none⟩ = some (xs[j * 9 + t]'(by rw [hlen]; omega)) := fun t ht => by
    rw [hr.cellAt (j * 9 + t) (by omega)]
    exact List.getElem?_eq_getElem (by rw [hlen]; omega)
  refine ⟨g, _, _, _, _, _, _, _, Ar, _, cr, At, _, ct, rfl, hbg, h.rhi g rfl, er, et, ⟨hc 0 (by decide), hc 1 (by decide), hc 2 (by decide), hc 3 (by decide), hc 4 (by decide), hc 5 (by decide), hc 6 (by decide), ?_, ?_⟩, fun t => hr.frozenAt t⟩
  · rw [hr.cellAt (j * 9 + 7) (by omega)]
    exact h7
  · rw [hr.cellAt (j * 9 + 8) (by omega)]
    exact h8
theorem LO.at2 {g : Nat} {Ar At : Option Addr} {nr cr nt ct : Nat} (h : LO w base hi (some ⟨g, 0, none⟩) n c hd i0) {j : Nat} (hj : i0 ≤ j) (hn : j < n) (e7 : hd (2 * j) = .slice Ar nr cr) (e8 : hd (2 * j + 1) = .slice At nt ct) :
    ∃ v0 v1 v2 v3 v4 v5 v6, (w.cell? ⟨g, j * 9, none⟩ = some v0 ∧ w.cell? ⟨g, j * 9 + 1, none⟩ = some v1 ∧ w.cell? ⟨g, j * 9 + 2, none⟩ = some v2 ∧ w.cell? ⟨g, j * 9 + 3, none⟩ = some v3 ∧ w.cell? ⟨g, j * 9 + 4, none⟩ = some v4 ∧ w.cell? ⟨g, j * 9 + 5, none⟩ = some v5 ∧ w.cell? ⟨g, j * 9 + 6, none⟩ = some v6 ∧
        w.cell? ⟨g, j * 9 + 7, none⟩ = some (.slice Ar nr cr) ∧ w.cell? ⟨g, j * 9 + 8, none⟩ = some (.slice At nt ct)) ∧ ∀ t, w.frozen? ⟨g, t, none⟩ = false := by
  obtain ⟨g', v0, v1, v2, v3, v4, v5, v6, Ar', nr', cr', At', nt', ct', hA, _, _, f7, f8, hc, hf⟩ := h.at_ hj hn
  injection hA with hA
  injection hA with hA
  subst hA
  rw [e7] at f7
  rw [e8] at f8
  injection f7 with a1 a2 a3
  injection f8 with b1 b2 b3
  subst a1 a2 a3 b1 b2 b3
  exact ⟨v0, v1, v2, v3, v4, v5, v6, hc, hf⟩
theorem LO.bound (h : LO w base hi A n c hd i0) {i m cr : Nat} {Ar : Option Addr} (hi' : i < 2 * n) (he : hd i = .slice Ar m cr) : m ≤ 9223372036854775807 := by
  obtain ⟨m', ys, hy⟩ := h.own i hi'
  obtain ⟨A', c', e'⟩ := own_shape hy
  rw [he] at e'
  injection e' with e1 e2 e3
  subst e1 e2 e3
  rw [he] at hy
  have := own_cap hy
  unfold maxLen at this
  omega
theorem LO.other {w2 : World} (h : LO w base hi A n c hd i0) {i : Nat} (hi' : i < 2 * n) (ho : ∃ m ys, w2.ownsRow base 47 3 (hd i) m ys) (hk : ∀ g, (hd i).ownBlock ≠ some g → w2.heap[g]? = w.heap[g]?) : LO w2 base hi A n c hd i0 := by
  obtain ⟨xs, hr, hx⟩ := h.row
  obtain ⟨mi, li, hli⟩ := h.own i hi'
  refine ⟨⟨xs, ⟨hr.1, ?_⟩, hx⟩, fun q hq => ?_, h.apart, h.rhi, h.ohi⟩
  · rcases hr.2 with h2 | ⟨g', cap', cur, hv, hbg, hh, h3⟩
    · exact .inl h2
    · refine .inr ⟨g', cap', cur, hv, hbg, (hk g' fun e => ?_).trans hh, h3⟩
      exact own_ne_blk hli hh (by decide) e
  · by_cases e : q = i
    · subst e
      exact ho
    · obtain ⟨mq, lq, hlq⟩ := h.own q hq
      refine ⟨mq, lq, hlq.1, ?_⟩
      rcases hlq.2 with h2 | ⟨g', cap', cur, hv, hbg, hh, h3⟩
      · exact .inl h2
      · exact .inr ⟨g', cap', cur, hv, hbg, (hk g' fun e' => h.apart i q hi' hq (fun e2 => e e2.symm) g' e' (by rw [hv]; rfl)).trans hh, h3⟩
/-- an entry is written over -/
theorem LO.entry {g' : Nat} (h : LO w base hi A n c hd i0) {i k m cr : Nat} (hi' : i < 2 * n) (he : hd i = .slice (some ⟨g', 0, none⟩) m cr) (v0 v1 v2 : Value) :
    LO (((w.setCell ⟨g', k * 3, none⟩ v0).setCell ⟨g', k * 3 + 1, none⟩ v1).setCell ⟨g', k * 3 + 2, none⟩ v2) base hi A n c hd i0 := by
  obtain ⟨m', ys, hy⟩ := h.own i hi'
  obtain ⟨A', c', e'⟩ := own_shape hy
  rw [he] at e'
  injection e' with e1 e2 e3
  subst e2
  rw [he] at hy
  have h1 := (World.ownsRow.stored hy (k * 3) v0).1
  have h2 := (World.ownsRow.stored h1 (k * 3 + 1) v1).1
  have h3 := (World.ownsRow.stored h2 (k * 3 + 2) v2).1
  refine h.other hi' ⟨_, _, by rw [he]; exact h3⟩ fun g hg => ?_
  have hne : g ≠ g' := fun e => hg (by rw [he, e]; rfl)
  rw [Below.heap_setCell _ ⟨g', k * 3 + 2, none⟩ _ g hne, Below.heap_setCell _ ⟨g', k * 3 + 1, none⟩ _ g hne, Below.heap_setCell _ ⟨g', k * 3, none⟩ _ g hne]
/-- where an entry lies -/
theorem LO.ent_at (h : LO w base hi A n c hd i0) {i k m cr : Nat} {Ar : Option Addr} (hi' : i < 2 * n) (he : hd i = .slice Ar m cr) (hk : k < m) :
    ∃ g' u0 u1 u2, Ar = some ⟨g', 0, none⟩ ∧ base ≤ g' ∧ g' < hi ∧ (w.cell? ⟨g', k * 3, none⟩ = some u0 ∧ w.cell? ⟨g', k * 3 + 1, none⟩ = some u1 ∧ w.cell? ⟨g', k * 3 + 2, none⟩ = some u2) ∧ ∀ t, w.frozen? ⟨g', t, none⟩ = false := by
  obtain ⟨m', ys, hy⟩ := h.own i hi'
  obtain ⟨A', c', e'⟩ := own_shape hy
  rw [he] at e'
  injection e' with e1 e2 e3
  subst e1 e2 e3
  obtain ⟨g', capg, hv, hbg, hlt⟩ := hy.form (by omega)
  rw [he] at hv hy
  have hA : Ar = some ⟨g', 0, none⟩ := by injection hv
  subst hA
  have hlen := hy.1
  have hc : ∀ t, (ht : t < 3) → w.cell? ⟨g', k * 3 + t, none⟩ = some (ys[k * 3 + t]'(by rw [hlen]; omega)) := fun t ht => by
    rw [hy.cellAt (k * 3 + t) (by omega)]
    exact List.getElem?_eq_getElem (by rw [hlen]; omega)
  exact ⟨g', _, _, _, rfl, hbg, h.ohi i hi' g' (by rw [he]; rfl), ⟨hc 0 (by decide), hc 1 (by decide), hc 2 (by decide)⟩, fun t => hy.frozenAt t⟩
/-- block i0 is written over -/
theorem LO.zero {g : Nat} (h : LO w base hi (some ⟨g, 0, none⟩) n c hd i0) (_hn : i0 < n) (v0 v1 v2 v3 v4 v5 v6 v7 v8 : Value) :
    LO (((((((((w.setCell ⟨g, i0 * 9, none⟩ v0).setCell ⟨g, i0 * 9 + 1, none⟩ v1).setCell ⟨g, i0 * 9 + 2, none⟩ v2).setCell ⟨g, i0 * 9 + 3, none⟩ v3).setCell ⟨g, i0 * 9 + 4, none⟩ v4).setCell ⟨g, i0 * 9 + 5, none⟩ v5).setCell ⟨g, i0 * 9 + 6, none⟩ v6).setCell ⟨g, i0 * 9 + 7, none⟩ v7).setCell ⟨g, i0 * 9 + 8, none⟩ v8) base hi (some ⟨g, 0, none⟩) n c hd (i0 + 1) := by
  obtain ⟨xs, hr, hx⟩ := h.row
  have h1 := (World.ownsRow.stored hr (i0 * 9) v0).1
  have h2 := (World.ownsRow.stored h1 (i0 * 9 + 1) v1).1
  have h3 := (World.ownsRow.stored h2 (i0 * 9 + 2) v2).1
  have h4 := (World.ownsRow.stored h3 (i0 * 9 + 3) v3).1
  have h5 := (World.ownsRow.stored h4 (i0 * 9 + 4) v4).1
  have h6 := (World.ownsRow.stored h5 (i0 * 9 + 5) v5).1
  have h7 := (World.ownsRow.stored h6 (i0 * 9 + 6) v6).1
  have h8 := (World.ownsRow.stored h7 (i0 * 9 + 7) v7).1
  have h9 := (World.ownsRow.stored h8 (i0 * 9 + 8) v8).1
  refine ⟨⟨_, h9, fun j hj hn => ?_⟩, fun i hi' => ?_, h.apart, h.rhi, h.ohi⟩
  · obtain ⟨a, b⟩ := hx j (by omega) hn
    constructor
    · rw [List.getElem?_set_ne (by omega), List.getElem?_set_ne (by omega), List.getElem?_set_ne (by omega), List.getElem?_set_ne (by omega), List.getElem?_set_ne (by omega), List.getElem?_set_ne (by omega), List.getElem?_set_ne (by omega), List.getElem?_set_ne (by omega), List.getElem?_set_ne (by omega)]
      exact a
    · rw [List.getElem?_set_ne (by omega), List.getElem?_set_ne (by omega), List.getElem?_set_ne (by omega), List.getElem?_set_ne (by omega), List.getElem?_set_ne (by omega), List.getElem?_set_ne (by omega), List.getElem?_set_ne (by omega), List.getElem?_set_ne (by omega), List.getElem?_set_ne (by omega)]
      exact b
  · obtain ⟨m, ys, hy⟩ := h.own i hi'
    refine ⟨m, ys, hy.1, ?_⟩
    rcases hy.2 with q | ⟨g', cap', cur, hv, hbg, hh, q⟩
    · exact .inl q
    · have hne : g' ≠ g := by
        intro e
        subst e
        exact own_far hr hy (by decide) g' rfl (by rw [hv]; rfl)
      refine .inr ⟨g', cap', cur, hv, hbg, ?_, q⟩
      rw [Below.heap_setCell _ ⟨g, _, none⟩ _ g' hne, Below.heap_setCell _ ⟨g, _, none⟩ _ g' hne, Below.heap_setCell _ ⟨g, _, none⟩ _ g' hne, Below.heap_setCell _ ⟨g, _, none⟩ _ g' hne, Below.heap_setCell _ ⟨g, _, none⟩ _ g' hne, Below.heap_setCell _ ⟨g, _, none⟩ _ g' hne, Below.heap_setCell _ ⟨g, _, none⟩ _ g' hne, Below.heap_setCell _ ⟨g, _, none⟩ _ g' hne, Below.heap_setCell _ ⟨g, _, none⟩ _ g' hne]
      exact hh
end
theorem wBl_ent (l : List Ev) (i : Nat) : (ent (wBl l) i).length ≤ l.length := by
  have ho := cutF_own l 0 cs0 COwn.start
  rw [Nat.zero_add] at ho
  have hb : ∀ k, (blAt (wBl l) k).rd = (blAt (cutF cs0 l 0).bl k).rd ∧ (blAt (wBl l) k).wt = (blAt (cutF cs0 l 0).bl k).wt := by
    intro k
    unfold wBl blAt
    simp only [List.getD, List.getElem?_map]
    cases (cutF cs0 l 0).bl[k]? <;> exact ⟨rfl, rfl⟩
  unfold ent bEnt
  split
  · rw [(hb _).1]
    exact ho.rd _
  · rw [(hb _).2]
    exact ho.wt _
theorem zip_same {α β : Type} {a c : List α} {b d : List β} (h1 : b.length = a.length) (h2 : d.length = c.length) (h : a.zip b = c.zip d) : a = c ∧ b = d := by
  have e1 := List.map_fst_zip (l₁ := a) (l₂ := b) (by omega)
  have e2 := List.map_fst_zip (l₁ := c) (l₂ := d) (by omega)
  have e3 := List.map_snd_zip (l₁ := a) (l₂ := b) (by omega)
  have e4 := List.map_snd_zip (l₁ := c) (l₂ := d) (by omega)
  exact ⟨by rw [← e1, h, e2], by rw [← e3, h, e4]⟩
/-- what the document cuts out is what the pass cuts out -/
theorem doc_same {l : List Ev} (hk : chk ss0 l 0 = (-1, 0)) {bl : List Bl} {lk : List Nat} (h : docX l l 0 = bl.zip lk) (hl : lk.length = bl.length) : bl = wBl l ∧ lk = wLk l := by
  rw [cut_doc l hk] at h
  exact (fun q => ⟨q.1.symm, q.2.symm⟩) (zip_same (wLk_len l) hl h)
end Go.Proofs.Ytjifpjfinffamaa
