/- The look in memory, step by step: a field is written, an attempt's cell, a map made or filled, an attempt appended. -/
import Derived.Test.YtjifpjfinffamaaV9
namespace Go.Proofs.Ytjifpjfinffamaa
open Go.RowKit Go.Maps

/-- a map: its block, how many entries at most, how it reads -/
abbrev MP := Nat × Nat × DataW Unit
structure LMem (w : World) (base b : Nat) (f : Nat → Value) (At : Option Addr) (ct nt : Nat) (vs : List Value) (ms : Nat → Option MP) (M : Nat) : Prop where
  blk : Blk w base 193 b 87 f
  trs : w.ownsRow base 214 7 (.slice At nt ct) nt vs
  shape : Shape M vs
  maps : ∀ i x, ms i = some x → base ≤ x.1 ∧ w.ownsMap (H := Unit) Try.prog 40 (plainElem Try.prog 40) x.1 x.2.1 x.2.2
  apart : ∀ i j x y, i ≠ j → ms i = some x → ms j = some y → x.1 ≠ y.1
def upf (f : Nat → Value) (j : Nat) (v : Value) : Nat → Value := fun i => if i = j then v else f i
def upm (ms : Nat → Option MP) (t : Nat) (x : Option MP) : Nat → Option MP := fun i => if i = t then x else ms i
section
variable {w w' : World} {base b : Nat} {f : Nat → Value} {At : Option Addr} {ct nt : Nat} {vs : List Value} {ms : Nat → Option MP} {M : Nat}

theorem map_not_cells {w : World} {g n : Nat} {D : DataW Unit} (h : w.ownsMap (H := Unit) Try.prog 40 (plainElem Try.prog 40) g n D) {q : Nat} {cs : Array Value} {t : TypeId} {fr : Nat × Nat} (hq : w.heap[q]? = some (.cells cs t fr)) : g ≠ q := by
  obtain ⟨es, ck, h1, _⟩ := h
  rintro rfl
  rw [h1] at hq
  cases hq
theorem Blk.at_heap (h : Blk w base 193 b 87 f) : ∃ cs, w.heap[b]? = some (.cells cs 193 (0, 0)) := by
  rcases (show _ ∨ _ from (show _ ∧ _ from h).2) with ⟨hc', _⟩ | ⟨g', cap', cur, hv', _, hh, _⟩
  · cases hc'
  · injection hv' with hv'
    injection hv' with hv'
    injection hv' with hv'
    rw [← hv'] at hh
    exact ⟨_, hh⟩
theorem LMem.trs_ne (h : LMem w base b f At ct nt vs ms M) : (Value.slice At nt ct).ownBlock ≠ some b := by
  obtain ⟨cs, hh⟩ := h.blk.at_heap
  exact own_ne_blk h.trs hh (by decide)
theorem LMem.map_ne (h : LMem w base b f At ct nt vs ms M) {i : Nat} {x : MP} (hx : ms i = some x) : x.1 ≠ b := by
  obtain ⟨cs, hh⟩ := h.blk.at_heap
  exact map_not_cells (h.maps i x hx).2 hh
theorem LMem.map_trs (h : LMem w base b f At ct nt vs ms M) {i : Nat} {x : MP} (hx : ms i = some x) : (Value.slice At nt ct).ownBlock ≠ some x.1 := by
  intro hc
  rcases h.trs.2 with ⟨h2, _⟩ | ⟨g, cap, cur, hv, _, hh, _⟩
  · rw [h2] at hc; cases hc
  · rw [hv] at hc
    have : g = x.1 := Option.some.inj hc
    exact map_not_cells (h.maps i x hx).2 hh this.symm
theorem trs_kept (h : w.ownsRow base 214 7 (.slice At nt ct) nt vs) (hk : ∀ g, (Value.slice At nt ct).ownBlock = some g → w'.heap[g]? = w.heap[g]?) : w'.ownsRow base 214 7 (.slice At nt ct) nt vs := by
  refine ⟨h.1, ?_⟩
  rcases h.2 with h2 | ⟨g, cap, cur, hv, hbg, hh, h3⟩
  · exact .inl h2
  · exact .inr ⟨g, cap, cur, hv, hbg, (hk g (by rw [hv]; rfl)).trans hh, h3⟩
theorem map_kept {g n : Nat} {D : DataW Unit} (h : w.ownsMap (H := Unit) Try.prog 40 (plainElem Try.prog 40) g n D) (hk : w'.heap[g]? = w.heap[g]?) : w'.ownsMap (H := Unit) Try.prog 40 (plainElem Try.prog 40) g n D := by
  obtain ⟨es, ck, h1, h2⟩ := h
  exact ⟨es, ck, hk.trans h1, h2⟩
theorem LMem.more (h : LMem w base b f At ct nt vs ms M) {M' : Nat} (hM : M ≤ M') : LMem w base b f At ct nt vs ms M' := by
  refine ⟨h.blk, h.trs, fun q x hx => ?_, h.maps, h.apart⟩
  have := h.shape q x hx
  split
  · rename_i hq
    rwa [if_pos hq] at this
  · rename_i hq
    rw [if_neg hq] at this
    obtain ⟨y, h1, h2⟩ := this
    exact ⟨y, h1, fun h5 => by have := h2 h5; omega⟩
/-- nothing of it is touched -/
theorem LMem.still (h : LMem w base b f At ct nt vs ms M) (hk : ∀ g, g < w.heap.size → w'.heap[g]? = w.heap[g]?) : LMem w' base b f At ct nt vs ms M :=
  ⟨h.blk.kept (hk b h.blk.lt.2), trs_kept h.trs fun g hg => hk g (h.trs.lt g hg).2, h.shape, fun i x hx => ⟨(h.maps i x hx).1, map_kept (h.maps i x hx).2 (hk _ (h.maps i x hx).2.lt)⟩, h.apart⟩
theorem LMem.below (h : LMem w base b f At ct nt vs ms M) (hb : Below w.heap.size w w') : LMem w' base b f At ct nt vs ms M := h.still fun g hg => hb.block g hg
theorem LMem.alloc (h : LMem w base b f At ct nt vs ms M) (o : Obj) : LMem (w.alloc o) base b f At ct nt vs ms M := h.still fun g hg => Below.heap_alloc w o g hg
/-- a field of the struct -/
theorem LMem.field (h : LMem w base b f At ct nt vs ms M) (j : Nat) (v : Value) : LMem (w.setCell ⟨b, j, none⟩ v) base b (upf f j v) At ct nt vs ms M :=
  ⟨h.blk.set j v, trs_kept h.trs fun g hg => Below.heap_setCell w ⟨b, j, none⟩ v g (fun e => h.trs_ne (by rw [hg, e])), h.shape,
    fun i x hx => ⟨(h.maps i x hx).1, map_kept (h.maps i x hx).2 (Below.heap_setCell w ⟨b, j, none⟩ v _ (h.map_ne hx))⟩, h.apart⟩
/-- a cell of an attempt -/
theorem LMem.attempt {gt : Nat} (h : LMem w base b f (some ⟨gt, 0, none⟩) ct nt vs ms M) (q : Nat) (v : Value) (hv : if q % 7 = 3 then ∃ y, v = .int .u64 y else ∃ y : Int, v = .int .i64 y ∧ (5 ≤ q % 7 → 0 ≤ y ∧ y ≤ M)) : ∃ vs', LMem (w.setCell ⟨gt, q, none⟩ v) base b f (some ⟨gt, 0, none⟩) ct nt vs' ms M := by
  have hne : (Value.slice (some ⟨gt, 0, none⟩) nt ct).ownBlock = some gt := rfl
  refine ⟨vs.set q v, h.blk.kept (Below.heap_setCell w ⟨gt, q, none⟩ v b (fun e => h.trs_ne (by rw [hne, e]))), (h.trs.stored q v).1, ?_, fun i x hx => ⟨(h.maps i x hx).1, map_kept (h.maps i x hx).2 (Below.heap_setCell w ⟨gt, q, none⟩ v _ (fun e => h.map_trs hx (by rw [hne, e])))⟩, h.apart⟩
  intro p x hx
  by_cases e : p = q
  · subst e
    have hl := (List.getElem?_eq_some_iff.1 hx).1
    rw [List.length_set] at hl
    rw [List.getElem?_set_self hl] at hx
    injection hx with hx
    subst hx
    exact hv
  · rw [List.getElem?_set_ne (fun e' => e e'.symm)] at hx
    exact h.shape p x hx
/-- what an attempt's cell holds -/
theorem LMem.attempt_at {gt : Nat} (h : LMem w base b f (some ⟨gt, 0, none⟩) ct nt vs ms M) {q : Nat} (hq : q < nt * 7) : (∃ x, w.cell? ⟨gt, q, none⟩ = some x ∧ (if q % 7 = 3 then ∃ y, x = .int .u64 y else ∃ y : Int, x = .int .i64 y ∧ (5 ≤ q % 7 → 0 ≤ y ∧ y ≤ M))) ∧ w.frozen? ⟨gt, q, none⟩ = false := by
  have hl := h.trs.1
  have hc := h.trs.cellAt q (by omega)
  have hx : vs[q]? = some vs[q] := List.getElem?_eq_getElem (by omega)
  exact ⟨⟨vs[q], hc.trans hx, h.shape q _ hx⟩, h.trs.frozenAt q⟩
/-- a map is made -/
theorem LMem.newmap (h : LMem w base b f At ct nt vs ms M) (hbase : base ≤ w.heap.size) (t : Nat) : LMem (w.alloc (.map #[] 0)) base b f At ct nt vs (upm ms t (some (w.heap.size, 0, .map []))) M := by
  have h2 := h.alloc (.map #[] 0)
  refine ⟨h2.blk, h2.trs, h2.shape, fun i x hx => ?_, fun i j x y hij hx hy => ?_⟩
  · unfold upm at hx
    split at hx
    · injection hx with hx
      subst hx
      exact ⟨hbase, World.ownsMap_made _ _ _ _⟩
    · exact h2.maps i x hx
  · unfold upm at hx hy
    split at hx
    · injection hx with hx
      subst hx
      split at hy
      · omega
      · have := (h.maps j y hy).2.lt
        show w.heap.size ≠ y.1
        omega
    · split at hy
      · injection hy with hy
        subst hy
        have := (h.maps i x hx).2.lt
        show x.1 ≠ w.heap.size
        omega
      · exact h.apart i j x y hij hx hy
set_option maxRecDepth 100000 in
/-- a map is filled -/
theorem LMem.filled (h : LMem w base b f At ct nt vs ms M) {t g n : Nat} {D : DataW Unit} (ht : ms t = some (g, n, D)) (hm : n < maxLen) {a v : Int} (ha : 0 ≤ a ∧ a < 18446744073709551616) (hv : 0 ≤ v ∧ v < 18446744073709551616) :
    ∃ w', (Instr.mapUpdate 187 (.map (some g)) (.int .u64 a) (.int .u64 v)).run Try.prog w = .ok () w' ∧ LMem w' base b f At ct nt vs (upm ms t (some (g, n + 1, D.put (lu a) (.lit (lu v))))) M ∧ w.grownBy w' (some g) := by
  obtain ⟨w', hrun, ho, hg⟩ := (h.maps t _ ht).2.update law40 Try.underlying187 hm (keyOf_int_mk (a := a) Try.underlying40 (WalkArith.wf_u64 (by omega))) (plainElem_int (a := v) Try.underlying40 (WalkArith.wf_u64 (by omega)))
  refine ⟨w', hrun, ⟨h.blk.grown hg (fun e => h.map_ne ht (by injection e with e; exact e.symm)), trs_kept h.trs fun q hq => hg.block q (h.trs.lt q hq).2 (fun e => h.map_trs ht (by rw [hq, e])), h.shape, fun i x hx => ?_, fun i j x y hij hx hy => ?_⟩, hg⟩
  · unfold upm at hx
    split at hx
    · injection hx with hx
      subst hx
      exact ⟨(h.maps t _ ht).1, ho⟩
    · rename_i hit
      refine ⟨(h.maps i x hx).1, map_kept (h.maps i x hx).2 (hg.block _ (h.maps i x hx).2.lt fun e => ?_)⟩
      injection e with e
      exact h.apart i t x _ hit hx ht e
  · unfold upm at hx hy
    split at hx
    · rename_i hit
      injection hx with hx
      subst hx
      split at hy
      · omega
      · exact h.apart t j (g, n, D) y (fun e => by omega) ht hy
    · split at hy
      · injection hy with hy
        subst hy
        rename_i h1 h2
        exact h.apart i t x (g, n, D) h1 hx ht
      · exact h.apart i j x y hij hx hy
/-- an attempt is appended -/
theorem LMem.appended (h : LMem w base b f At ct nt vs ms M) {g2 c2 : Nat} {new : List Value} (hn : Shape M new)
    (hown : w'.ownsRow base 214 7 (.slice (some ⟨g2, 0, none⟩) (nt + 1) c2) (nt + 1) (vs ++ new)) (hg : w.grownBy w' (Value.slice At nt ct).ownBlock) : LMem w' base b f (some ⟨g2, 0, none⟩) c2 (nt + 1) (vs ++ new) ms M := by
  refine ⟨h.blk.grown hg (fun e => h.trs_ne e.symm), hown, ?_, fun i x hx => ⟨(h.maps i x hx).1, map_kept (h.maps i x hx).2 (hg.block _ (h.maps i x hx).2.lt fun e => h.map_trs hx e.symm)⟩, h.apart⟩
  intro q x hx
  have hvl : vs.length = nt * 7 := h.trs.1
  by_cases hq : q < vs.length
  · rw [List.getElem?_append_left hq] at hx
    exact h.shape q x hx
  · rw [List.getElem?_append_right (by omega)] at hx
    have := hn _ x hx
    rwa [show (q - vs.length) % 7 = q % 7 by omega] at this
end
end Go.Proofs.Ytjifpjfinffamaa
