/- Texts VB VC VCb, laid together. -/
import Derived.Test.YtjifpjfinffamaaZ7
section
namespace Go.Proofs.Ytjifpjfinffamaa
open Go.RowKit Go.Maps
abbrev MP := Nat × Nat × DataW Unit
structure LMem (w : World) (base b : Nat) (f : Nat → Value) (At : Option Addr) (ct nt : Nat) (vs : List Value) (ms : Nat → Option MP) (M : Nat) : Prop where
  blk : Blk w base 193 b 87 f
  trs : w.ownsRow base 214 7 (.slice At nt ct) nt vs
  shape : Shape M vs
  maps : ∀ i x, ms i = some x → base ≤ x.1 ∧ w.ownsMap (H := Unit) Try.prog 40 (plainElem Try.prog 40) x.1 x.2.1 x.2.2
  apart : ∀ i j x y, i ≠ j → ms i = some x → ms j = some y → x.1 ≠ y.1
def upf (f : Nat → Value) (j : Nat) (v : Value) : Nat → Value := fun i => if i = j then v else f i
def upm (ms : Nat → Option MP) (t : Nat) (x : Option MP) : Nat → Option MP := fun i => if i = t then x else ms i
section
variable {w w' : World} {base b : Nat} {f : Nat → Value} {At : Option Addr} {ct nt : Nat} {vs : List Value} {ms : Nat → Option MP} {M : Nat}
theorem map_not_cells {w : World} {g n : Nat} {D : DataW Unit} (h : w.ownsMap (H := Unit) Try.prog 40 (plainElem Try.prog 40) g n D) {q : Nat} {cs : Array Value} {t : TypeId} {fr : Nat × Nat} (hq : w.heap[q]? = some (.cells cs t fr)) : g ≠ q := by
  obtain ⟨es, ck, h1, _⟩ := h
  rintro rfl
  rw [h1] at hq
  cases hq
theorem Blk.at_heap (h : Blk w base 193 b 87 f) : ∃ cs, w.heap[b]? = some (.cells cs 193 (0, 0)) := by
  rcases (show _ ∨ _ from (show _ ∧ _ from h).2) with ⟨hc', _⟩ | ⟨g', cap', cur, hv', _, hh, _⟩
  · cases hc'
  · injection hv' with hv'
    injection hv' with hv'
    injection hv' with hv'
    rw [← hv'] at hh
    exact ⟨_, hh⟩
theorem LMem.trs_ne (h : LMem w base b f At ct nt vs ms M) : (Value.slice At nt ct).ownBlock ≠ some b := by
  obtain ⟨cs, hh⟩ := h.blk.at_heap
  exact own_ne_blk h.trs hh (by decide)
theorem LMem.map_ne (h : LMem w base b f At ct nt vs ms M) {i : Nat} {x : MP} (hx : ms i = some x) : x.1 ≠ b := by
  obtain ⟨cs, hh⟩ := h.blk.at_heap
  exact map_not_cells (h.maps i x hx).2 hh
theorem LMem.map_trs (h : LMem w base b f At ct nt vs ms M) {i : Nat} {x : MP} (hx : ms i = some x) : (Value.slice At nt ct).ownBlock ≠ some x.1 := by
  intro hc
  rcases h.trs.2 with ⟨h2, _⟩ | ⟨g, cap, cur, hv, _, hh, _⟩
  · rw [h2] at hc; cases hc
  · rw [hv] at hc
    have : g = x.1 := Option.some.inj hc
    exact map_not_cells (h.maps i x hx).2 hh this.symm
theorem trs_kept (h : w.ownsRow base 214 7 (.slice At nt ct) nt vs) (hk : ∀ g, (Value.slice At nt ct).ownBlock = some g → w'.heap[g]? = w.heap[g]?) : w'.ownsRow base 214 7 (.slice At nt ct) nt vs := by
  refine ⟨h.1, ?_⟩
  rcases h.2 with h2 | ⟨g, cap, cur, hv, hbg, hh, h3⟩
  · exact .inl h2
  · exact .inr ⟨g, cap, cur, hv, hbg, (hk g (by rw [hv]; rfl)).trans hh, h3⟩
theorem map_kept {g n : Nat} {D : DataW Unit} (h : w.ownsMap (H := Unit) Try.prog 40 (plainElem Try.prog 40) g n D) (hk : w'.heap[g]? = w.heap[g]?) : w'.ownsMap (H := Unit) Try.prog 40 (plainElem Try.prog 40) g n D := by
  obtain ⟨es, ck, h1, h2⟩ := h
  exact ⟨es, ck, hk.trans h1, h2⟩
theorem LMem.more (h : LMem w base b f At ct nt vs ms M) {M' : Nat} (hM : M ≤ M') : LMem w base b f At ct nt vs ms M' := by
  refine ⟨h.blk, h.trs, fun q x hx => ?_, h.maps, h.apart⟩
  have := h.shape q x hx
  split
  · rename_i hq
    rwa [if_pos hq] at this
  · rename_i hq
    rw [if_neg hq] at this
    obtain ⟨y, h1, h2⟩ := this
    exact ⟨y, h1, fun h5 => by have := h2 h5; omega⟩
theorem LMem.still (h : LMem w base b f At ct nt vs ms M) (hk : ∀ g, g < w.heap.size → w'.heap[g]? = w.heap[g]?) : LMem w' base b f At ct nt vs ms M :=
  ⟨h.blk.kept (hk b h.blk.lt.2), trs_kept h.trs fun g hg => hk g (h.trs.lt g hg).2, h.shape, fun i x hx => ⟨(h.maps i x hx).1, map_kept (h.maps i x hx).2 (hk _ (h.maps i x hx).2.lt)⟩, h.apart⟩
theorem LMem.below (h : LMem w base b f At ct nt vs ms M) (hb : Below w.heap.size w w') : LMem w' base b f At ct nt vs ms M := h.still fun g hg => hb.block g hg
theorem LMem.alloc (h : LMem w base b f At ct nt vs ms M) (o : Obj) : LMem (w.alloc o) base b f At ct nt vs ms M := h.still fun g hg => Below.heap_alloc w o g hg
theorem LMem.field (h : LMem w base b f At ct nt vs ms M) (j : Nat) (v : Value) : LMem (w.setCell ⟨b, j, none⟩ v) base b (upf f j v) At ct nt vs ms M :=
  ⟨h.blk.set j v, trs_kept h.trs fun g hg => Below.heap_setCell w ⟨b, j, none⟩ v g (fun e => h.trs_ne (by rw [hg, e])), h.shape,
    fun i x hx => ⟨(h.maps i x hx).1, map_kept (h.maps i x hx).2 (Below.heap_setCell w ⟨b, j, none⟩ v _ (h.map_ne hx))⟩, h.apart⟩
theorem LMem.attempt {gt : Nat} (h : LMem w base b f (some ⟨gt, 0, none⟩) ct nt vs ms M) (q : Nat) (v : Value) (hv : if q % 7 = 3 then ∃ y, v = .int .u64 y else ∃ y : Int, v = .int .i64 y ∧ (5 ≤ q % 7 → 0 ≤ y ∧ y ≤ M)) : ∃ vs', LMem (w.setCell ⟨gt, q, none⟩ v) base b f (some ⟨gt, 0, none⟩) ct nt vs' ms M := by
  have hne : (Value.slice (some ⟨gt, 0, none⟩) nt ct).ownBlock = some gt := rfl
  refine ⟨vs.set q v, h.blk.kept (Below.heap_setCell w ⟨gt, q, none⟩ v b (fun e => h.trs_ne (by rw [hne, e]))), (h.trs.stored q v).1, ?_, fun i x hx => ⟨(h.maps i x hx).1, map_kept (h.maps i x hx).2 (Below.heap_setCell w ⟨gt, q, none⟩ v _ (fun e => h.map_trs hx (by rw [hne, e])))⟩, h.apart⟩
  intro p x hx
  by_cases e : p = q
  · subst e
    have hl := (List.getElem?_eq_some_iff.1 hx).1
    rw [List.length_set] at hl
    rw [List.getElem?_set_self hl] at hx
    injection hx with hx
    subst hx
    exact hv
  · rw [List.getElem?_set_ne (fun e' => e e'.symm)] at hx
    exact h.shape p x hx
theorem LMem.attempt_at {gt : Nat} (h : LMem w base b f (some ⟨gt, 0, none⟩) ct nt vs ms M) {q : Nat} (hq : q < nt * 7) : (∃ x, w.cell? ⟨gt, q, none⟩ = some x ∧ (if q % 7 = 3 then ∃ y, x = .int .u64 y else ∃ y : Int, x = .int .i64 y ∧ (5 ≤ q % 7 → 0 ≤ y ∧ y ≤ M))) ∧ w.frozen? ⟨gt, q, none⟩ = false := by
  have hl := h.trs.1
  have hc := h.trs.cellAt q (by omega)
  have hx : vs[q]? = some vs[q] := List.getElem?_eq_getElem (by omega)
  exact ⟨⟨vs[q], hc.trans hx, h.shape q _ hx⟩, h.trs.frozenAt q⟩
theorem LMem.newmap (h : LMem w base b f At ct nt vs ms M) (hbase : base ≤ w.heap.size) (t : Nat) : LMem (w.alloc (.map #[] 0)) base b f At ct nt vs (upm ms t (some (w.heap.size, 0, .map []))) M := by
  have h2 := h.alloc (.map #[] 0)
  refine ⟨h2.blk, h2.trs, h2.shape, fun i x hx => ?_, fun i j x y hij hx hy => ?_⟩
  · unfold upm at hx
    split at hx
    · injection hx with hx
      subst hx
      exact ⟨hbase, World.ownsMap_made _ _ _ _⟩
    · exact h2.maps i x hx
  · unfold upm at hx hy
    split at hx
    · injection hx with hx
      subst hx
      split at hy
      · omega
      · have := (h.maps j y hy).2.lt
        show w.heap.size ≠ y.1
        omega
    · split at hy
      · injection hy with hy
        subst hy
        have := (h.maps i x hx).2.lt
        show x.1 ≠ w.heap.size
        omega
      · exact h.apart i j x y hij hx hy
set_option maxRecDepth 100000 in
theorem LMem.filled (h : LMem w base b f At ct nt vs ms M) {t g n : Nat} {D : DataW Unit} (ht : ms t = some (g, n, D)) (hm : n < maxLen) {a v : Int} (ha : 0 ≤ a ∧ a < 18446744073709551616) (hv : 0 ≤ v ∧ v < 18446744073709551616) :
    ∃ w', (Instr.mapUpdate 187 (.map (some g)) (.int .u64 a) (.int .u64 v)).run Try.prog w = .ok () w' ∧ LMem w' base b f At ct nt vs (upm ms t (some (g, n + 1, D.put (lu a) (.lit (lu v))))) M ∧ w.grownBy w' (some g) := by
  obtain ⟨w', hrun, ho, hg⟩ := (h.maps t _ ht).2.update law40 Try.underlying187 hm (keyOf_int_mk (a := a) Try.underlying40 (WalkArith.wf_u64 (by omega))) (plainElem_int (a := v) Try.underlying40 (WalkArith.wf_u64 (by omega)))
  refine ⟨w', hrun, ⟨h.blk.grown hg (fun e => h.map_ne ht (by injection e with e; exact e.symm)), trs_kept h.trs fun q hq => hg.block q (h.trs.lt q hq).2 (fun e => h.map_trs ht (by rw [hq, e])), h.shape, fun i x hx => ?_, fun i j x y hij hx hy => ?_⟩, hg⟩
  · unfold upm at hx
    split at hx
    · injection hx with hx
      subst hx
      exact ⟨(h.maps t _ ht).1, ho⟩
    · rename_i hit
      refine ⟨(h.maps i x hx).1, map_kept (h.maps i x hx).2 (hg.block _ (h.maps i x hx).2.lt fun e => ?_)⟩
      injection e with e
      exact h.apart i t x _ hit hx ht e
  · unfold upm at hx hy
    split at hx
    · rename_i hit
      injection hx with hx
      subst hx
      split at hy
      · omega
      · exact h.apart t j (g, n, D) y (fun e => by omega) ht hy
    · split at hy
      · injection hy with hy
        subst hy
        rename_i h1 h2
        exact h.apart i t x (g, n, D) h1 hx ht
      · exact h.apart i j x y hij hx hy
theorem LMem.appended (h : LMem w base b f At ct nt vs ms M) {g2 c2 : Nat} {new : List Value} (hn : Shape M new)
    (hown : w'.ownsRow base 214 7 (.slice (some ⟨g2, 0, none⟩) (nt + 1) c2) (nt + 1) (vs ++ new)) (hg : w.grownBy w' (Value.slice At nt ct).ownBlock) : LMem w' base b f (some ⟨g2, 0, none⟩) c2 (nt + 1) (vs ++ new) ms M := by
  refine ⟨h.blk.grown hg (fun e => h.trs_ne e.symm), hown, ?_, fun i x hx => ⟨(h.maps i x hx).1, map_kept (h.maps i x hx).2 (hg.block _ (h.maps i x hx).2.lt fun e => h.map_trs hx e.symm)⟩, h.apart⟩
  intro q x hx
  have hvl : vs.length = nt * 7 := h.trs.1
  by_cases hq : q < vs.length
  · rw [List.getElem?_append_left hq] at hx
    exact h.shape q x hx
  · rw [List.getElem?_append_right (by omega)] at hx
    have := hn _ x hx
    rwa [show (q - vs.length) % 7 = q % 7 by omega] at this
end
end Go.Proofs.Ytjifpjfinffamaa
end
section
namespace Go.Proofs.Ytjifpjfinffamaa
open Go.RowKit Go.Maps
def fld (H S M R : Nat → Value) (n d a : Value) (i : Nat) : Value :=
  if i < 52 then tabV i else if i = 84 then n else if i = 85 then d else if i = 86 then a
  else if i % 4 = 0 then H ((i - 52) / 4) else if i % 4 = 1 then S ((i - 52) / 4) else if i % 4 = 2 then M ((i - 52) / 4) else R ((i - 52) / 4)
theorem lF_fld (s : SS) (mp : Nat → Option Nat) (tr : Nat → Int) (hd : Int) (At : Option Addr) (nt ct : Nat) :
    lF s mp tr hd At nt ct = fld (fun i => .int .i64 (s.t i).how) (fun i => .int .u64 (s.t i).snap) (fun i => .map (mp i)) (fun i => .int .i64 (tr i)) (.int .u64 s.num) (.int .i64 hd) (.slice At nt ct) := rfl
section
variable {H S M R : Nat → Value} {n d a v : Value} {t j : Nat}
theorem fld_how (h8 : t < 8) : upf (fld H S M R n d a) (52 + t * 4) v j = fld (upf H t v) S M R n d a j := by
  unfold upf fld
  by_cases e : j = 52 + t * 4
  · subst e
    rw [if_pos rfl, if_neg (by omega), if_neg (by omega), if_neg (by omega), if_neg (by omega), if_pos (by omega), show (52 + t * 4 - 52) / 4 = t by omega]
    simp
  · rw [if_neg e]
    by_cases h1 : j < 52
    · simp [h1]
    · by_cases h2 : j % 4 = 0
      · simp only [h1, h2, if_false, if_true, show ¬ (j - 52) / 4 = t by omega]
      · simp only [h1, h2, if_false]
theorem fld_snap (h8 : t < 8) : upf (fld H S M R n d a) (52 + t * 4 + 1) v j = fld H (upf S t v) M R n d a j := by
  unfold upf fld
  by_cases e : j = 52 + t * 4 + 1
  · subst e
    rw [if_pos rfl, if_neg (by omega), if_neg (by omega), if_neg (by omega), if_neg (by omega), if_neg (by omega), if_pos (by omega), show (52 + t * 4 + 1 - 52) / 4 = t by omega]
    simp
  · rw [if_neg e]
    by_cases h1 : j < 52
    · simp [h1]
    · by_cases h2 : j % 4 = 1
      · simp only [h1, h2, if_false, if_true, show ¬ (j - 52) / 4 = t by omega]
      · simp only [h1, h2, if_false]
theorem fld_map (h8 : t < 8) : upf (fld H S M R n d a) (52 + t * 4 + 2) v j = fld H S (upf M t v) R n d a j := by
  unfold upf fld
  by_cases e : j = 52 + t * 4 + 2
  · subst e
    rw [if_pos rfl, if_neg (by omega), if_neg (by omega), if_neg (by omega), if_neg (by omega), if_neg (by omega), if_neg (by omega), if_pos (by omega), show (52 + t * 4 + 2 - 52) / 4 = t by omega]
    simp
  · rw [if_neg e]
    by_cases h1 : j < 52
    · simp [h1]
    · by_cases h2 : j % 4 = 2
      · simp only [h1, h2, if_false, if_true, show ¬ (j - 52) / 4 = t by omega]
      · simp only [h1, h2, if_false]
theorem fld_try (h8 : t < 8) : upf (fld H S M R n d a) (52 + t * 4 + 3) v j = fld H S M (upf R t v) n d a j := by
  unfold upf fld
  by_cases e : j = 52 + t * 4 + 3
  · subst e
    rw [if_pos rfl, if_neg (by omega), if_neg (by omega), if_neg (by omega), if_neg (by omega), if_neg (by omega), if_neg (by omega), if_neg (by omega), show (52 + t * 4 + 3 - 52) / 4 = t by omega]
    simp
  · rw [if_neg e]
    by_cases h1 : j < 52
    · simp [h1]
    · by_cases h0 : j = 84 ∨ j = 85 ∨ j = 86
      · rcases h0 with rfl | rfl | rfl <;> simp
      · by_cases h2 : j % 4 = 0 ∨ j % 4 = 1 ∨ j % 4 = 2
        · rcases h2 with h2 | h2 | h2 <;> simp [h1, h2]
        · have h3 : ¬ (j - 52) / 4 = t := by omega
          simp [h3]
theorem fld_num : upf (fld H S M R n d a) 84 v j = fld H S M R v d a j := by
  unfold upf fld
  by_cases e : j = 84
  · subst e; rfl
  · simp [e]
theorem fld_hd : upf (fld H S M R n d a) 85 v j = fld H S M R n v a j := by
  unfold upf fld
  by_cases e : j = 85
  · subst e; rfl
  · simp [e]
theorem fld_trs : upf (fld H S M R n d a) 86 v j = fld H S M R n d v j := by
  unfold upf fld
  by_cases e : j = 86
  · subst e; rfl
  · simp [e]
variable {w : World} {base b : Nat} {At : Option Addr} {ct nt : Nat} {vs : List Value} {ms : Nat → Option MP} {Q : Nat}
theorem LMem.congr {f g : Nat → Value} (h : LMem w base b f At ct nt vs ms Q) (hg : ∀ j, j < 87 → f j = g j) : LMem w base b g At ct nt vs ms Q := ⟨h.blk.congr hg, h.trs, h.shape, h.maps, h.apart⟩
theorem LMem.setHow (h : LMem w base b (fld H S M R n d a) At ct nt vs ms Q) (h8 : t < 8) (v : Value) : LMem (w.setCell ⟨b, 52 + t * 4, none⟩ v) base b (fld (upf H t v) S M R n d a) At ct nt vs ms Q := (h.field _ v).congr fun _ _ => fld_how h8
theorem LMem.setSnap (h : LMem w base b (fld H S M R n d a) At ct nt vs ms Q) (h8 : t < 8) (v : Value) : LMem (w.setCell ⟨b, 52 + t * 4 + 1, none⟩ v) base b (fld H (upf S t v) M R n d a) At ct nt vs ms Q := (h.field _ v).congr fun _ _ => fld_snap h8
theorem LMem.setMap (h : LMem w base b (fld H S M R n d a) At ct nt vs ms Q) (h8 : t < 8) (v : Value) : LMem (w.setCell ⟨b, 52 + t * 4 + 2, none⟩ v) base b (fld H S (upf M t v) R n d a) At ct nt vs ms Q := (h.field _ v).congr fun _ _ => fld_map h8
theorem LMem.setTry (h : LMem w base b (fld H S M R n d a) At ct nt vs ms Q) (h8 : t < 8) (v : Value) : LMem (w.setCell ⟨b, 52 + t * 4 + 3, none⟩ v) base b (fld H S M (upf R t v) n d a) At ct nt vs ms Q := (h.field _ v).congr fun _ _ => fld_try h8
theorem LMem.setNum (h : LMem w base b (fld H S M R n d a) At ct nt vs ms Q) (v : Value) : LMem (w.setCell ⟨b, 84, none⟩ v) base b (fld H S M R v d a) At ct nt vs ms Q := (h.field _ v).congr fun _ _ => fld_num
theorem LMem.setHd (h : LMem w base b (fld H S M R n d a) At ct nt vs ms Q) (v : Value) : LMem (w.setCell ⟨b, 85, none⟩ v) base b (fld H S M R n v a) At ct nt vs ms Q := (h.field _ v).congr fun _ _ => fld_hd
theorem LMem.setTrs (h : LMem w base b (fld H S M R n d a) At ct nt vs ms Q) (v : Value) : LMem (w.setCell ⟨b, 86, none⟩ v) base b (fld H S M R n d v) At ct nt vs ms Q := (h.field _ v).congr fun _ _ => fld_trs
end
def MapsOk (s : SS) (m : Nat) (mp : Nat → Option Nat) (ms : Nat → Option MP) : Prop := ∀ i, i < 8 → Act_ (s.t i).how → ∃ g n D, ms i = some (g, n, D) ∧ mp i = some g ∧ n ≤ m ∧ MDw D (s.t i).wr
section
variable {w : World} {base b m : Nat} {s : SS} {mp : Nat → Option Nat} {tr : Nat → Int} {hd : Int} {At : Option Addr} {ct nt : Nat} {vs : List Value}
theorem LInv.mem (h : LInv w base b m s mp tr hd At ct nt vs) : ∃ ms, LMem w base b (lF s mp tr hd At nt ct) At ct nt vs ms m ∧ MapsOk s m mp ms := by
  have h1 : ∀ i, ∃ x : Option MP, (i < 8 ∧ Act_ (s.t i).how → ∃ g n D, x = some (g, n, D) ∧ mp i = some g ∧ base ≤ g ∧ n ≤ m ∧ w.ownsMap (H := Unit) Try.prog 40 (plainElem Try.prog 40) g n D ∧ MDw D (s.t i).wr) ∧ (¬ (i < 8 ∧ Act_ (s.t i).how) → x = none) := by
    intro i
    by_cases hi : i < 8 ∧ Act_ (s.t i).how
    · obtain ⟨⟨g, n, D, a1, a2, a3, a4, a5⟩, _⟩ := h.maps i hi.1 hi.2
      exact ⟨some (g, n, D), fun _ => ⟨g, n, D, rfl, a1, a2, a3, a4, a5⟩, fun hc => absurd hi hc⟩
    · exact ⟨none, fun hc => absurd hc hi, fun _ => rfl⟩
  obtain ⟨ms, hms⟩ := Classical.axiomOfChoice h1
  refine ⟨ms, ⟨h.blk, h.trs, h.shape, fun i x hx => ?_, fun i j x y hij hx hy => ?_⟩, fun i hi ha => ?_⟩
  · by_cases hi : i < 8 ∧ Act_ (s.t i).how
    · obtain ⟨g, n, D, e, _, a2, _, a4, _⟩ := (hms i).1 hi
      rw [hx] at e
      injection e with e
      subst e
      exact ⟨a2, a4⟩
    · rw [(hms i).2 hi] at hx; cases hx
  · by_cases hi : i < 8 ∧ Act_ (s.t i).how
    · by_cases hj : j < 8 ∧ Act_ (s.t j).how
      · obtain ⟨g, n, D, e, a1, _⟩ := (hms i).1 hi
        obtain ⟨g', n', D', e', a1', _⟩ := (hms j).1 hj
        rw [hx] at e
        rw [hy] at e'
        injection e with e
        injection e' with e'
        subst e e'
        have := h.apart i j hi.1 hj.1 hij hi.2 hj.2
        rw [a1, a1'] at this
        exact fun e => this (congrArg some e)
      · rw [(hms j).2 hj] at hy; cases hy
    · rw [(hms i).2 hi] at hx; cases hx
  · obtain ⟨g, n, D, e, a1, _, a3, _, a5⟩ := (hms i).1 ⟨hi, ha⟩
    exact ⟨g, n, D, e, a1, a3, a5⟩
theorem LMem.inv {f : Nat → Value} {ms : Nat → Option MP} (h : LMem w base b f At ct nt vs ms m) (hf : ∀ j, j < 87 → f j = lF s mp tr hd At nt ct j) (hm : MapsOk s m mp ms) (ht : ∀ i, i < 8 → Act_ (s.t i).how → 0 ≤ tr i ∧ tr i < nt)
    (hh : (hd = -1 ∧ ∀ i, i < 8 → (s.t i).how ≠ 2) ∨ ∃ i : Nat, i < 8 ∧ hd = i ∧ (s.t i).how = 2 ∧ ∀ j, j < 8 → j ≠ i → (s.t j).how ≠ 2)
    (hs : ∀ i, i < 8 → 0 ≤ (s.t i).snap ∧ (s.t i).snap < 18446744073709551616) (ho : ∀ i, i < 8 → 0 ≤ (s.t i).how ∧ (s.t i).how < 4) (hn : nt ≤ m) : LInv w base b m s mp tr hd At ct nt vs := by
  refine ⟨h.blk.congr hf, h.trs, h.shape, fun i hi ha => ?_, fun i j hi hj hij hai haj => ?_, hh, hs, ho, hn⟩
  · obtain ⟨g, n, D, e, a1, a3, a5⟩ := hm i hi ha
    exact ⟨⟨g, n, D, a1, (h.maps i _ e).1, a3, (h.maps i _ e).2, a5⟩, ht i hi ha⟩
  · obtain ⟨g, n, D, e, a1, _⟩ := hm i hi hai
    obtain ⟨g', n', D', e', a1', _⟩ := hm j hj haj
    rw [a1, a1']
    intro hc
    injection hc with hc
    exact h.apart i j _ _ hij e e' hc
end
end Go.Proofs.Ytjifpjfinffamaa
end
section
namespace Go.Proofs.Ytjifpjfinffamaa
open Go.RowKit Go.Maps
theorem adv_fld (s : SS) (e : Ev) {t : Nat} (ht : e.th.toNat = t) {nx : Int} (hnx : nx = nextI (s.t t).how e.kind e.err) (mp : Nat → Option Nat) (tr : Nat → Int) (hd : Int) (At : Option Addr) (nt ct : Nat) :
    lF (adv s e) mp tr hd At nt ct = fld (upf (fun i => .int .i64 (s.t i).how) t (.int .i64 nx)) (if e.kind = 1 ∨ e.kind = 4 then upf (fun i => .int .u64 (s.t i).snap) t (.int .u64 e.word) else fun i => .int .u64 (s.t i).snap)
      (fun i => .map (mp i)) (fun i => .int .i64 (tr i)) (.int .u64 (if e.kind = 6 ∧ (s.t t).how = 2 then e.word else s.num)) (.int .i64 hd) (.slice At nt ct) := by
  rw [lF_fld]
  congr 1
  · funext i
    by_cases h : i = t
    · subst h; simp [adv, ht, upf, advT, hnx]
    · simp [adv, ht, upf, h]
  · funext i
    by_cases h : i = t
    · subst h
      by_cases hk : e.kind = 1 ∨ e.kind = 4
      · simp [adv, ht, upf, advT, hk]
      · simp [adv, ht, advT, hk]
    · by_cases hk : e.kind = 1 ∨ e.kind = 4
      · simp [adv, ht, upf, h, hk]
      · simp [adv, ht, h, hk]
  · simp [adv, ht]
theorem upf_map {mp : Nat → Option Nat} {t : Nat} {x : Option Nat} : upf (fun i => Value.map (mp i)) t (.map x) = fun i => .map (if i = t then x else mp i) := by
  funext i
  unfold upf
  split <;> rfl
theorem upf_try {tr : Nat → Int} {t : Nat} {x : Int} : upf (fun i => Value.int .i64 (tr i)) t (.int .i64 x) = fun i => .int .i64 (if i = t then x else tr i) := by
  funext i
  unfold upf
  split <;> rfl
theorem LMem.fin {w0 w : World} {base b m : Nat} {s : SS} {mp mp' : Nat → Option Nat} {tr tr' : Nat → Int} {hd hd' nx : Int} {At At' : Option Addr} {ct nt ct' nt' t : Nat} {vs vs' : List Value} {ms ms' : Nat → Option MP} {e : Ev}
    (hI : LInv w0 base b m s mp tr hd At ct nt vs) (hM : LMem w base b (lF (adv s e) mp' tr' hd' At' nt' ct') At' ct' nt' vs' ms' (m + 1)) (ht : e.th.toNat = t) (he : e.Wd) (hnx : 0 ≤ nx ∧ nx < 4) (hnx' : nx = nextI (s.t t).how e.kind e.err) (hMO : MapsOk s m mp ms)
    (ho : ∀ i, i ≠ t → mp' i = mp i ∧ ms' i = ms i ∧ tr' i = tr i) (hnt : nt ≤ nt' ∧ nt' ≤ m + 1)
    (hmt : Act_ nx → ∃ g n D, ms' t = some (g, n, D) ∧ mp' t = some g ∧ n ≤ m + 1 ∧ MDw D (advT (s.t t) e).wr) (htt : Act_ nx → 0 ≤ tr' t ∧ tr' t < nt')
    (hh : (hd' = -1 ∧ ∀ i, i < 8 → ((adv s e).t i).how ≠ 2) ∨ ∃ i : Nat, i < 8 ∧ hd' = i ∧ ((adv s e).t i).how = 2 ∧ ∀ j, j < 8 → j ≠ i → ((adv s e).t j).how ≠ 2) :
    LInv w base b (m + 1) (adv s e) mp' tr' hd' At' ct' nt' vs' := by
  have e1 : (adv s e).t t = advT (s.t t) e := by simp [adv, ht]
  have e2 : ∀ i, i ≠ t → (adv s e).t i = s.t i := fun i hi => by simp [adv, ht, hi]
  have e3 : (advT (s.t t) e).how = nx := by rw [hnx']; rfl
  refine hM.inv (fun j _ => rfl) (fun i hi ha => ?_) (fun i hi ha => ?_) hh (fun i hi => ?_) (fun i hi => ?_) hnt.2
  · by_cases h : i = t
    · subst h
      rw [e1] at ha ⊢
      rw [e3] at ha
      exact hmt ha
    · rw [e2 i h] at ha ⊢
      obtain ⟨g, n, D, a1, a2, a3, a4⟩ := hMO i hi ha
      exact ⟨g, n, D, (ho i h).2.1.trans a1, (ho i h).1.trans a2, Nat.le_succ_of_le a3, a4⟩
  · by_cases h : i = t
    · subst h
      rw [e1, e3] at ha
      exact htt ha
    · rw [e2 i h] at ha
      have := (hI.maps i hi ha).2
      rw [(ho i h).2.2]
      omega
  · by_cases h : i = t
    · subst h
      rw [e1]
      simp only [advT]
      split
      · exact he.2
      · exact hI.snap i hi
    · rw [e2 i h]; exact hI.snap i hi
  · by_cases h : i = t
    · subst h
      rw [e1, e3]
      exact hnx
    · rw [e2 i h]; exact hI.how i hi
theorem hold_same {w0 : World} {base b m : Nat} {s : SS} {mp : Nat → Option Nat} {tr : Nat → Int} {hd nx : Int} {At : Option Addr} {ct nt t : Nat} {vs : List Value} {e : Ev} (hI : LInv w0 base b m s mp tr hd At ct nt vs) (ht : e.th.toNat = t)
    (hnx' : nx = nextI (s.t t).how e.kind e.err) (h1 : nx ≠ 2) (h2 : (s.t t).how ≠ 2) : (hd = -1 ∧ ∀ i, i < 8 → ((adv s e).t i).how ≠ 2) ∨ ∃ i : Nat, i < 8 ∧ hd = i ∧ ((adv s e).t i).how = 2 ∧ ∀ j, j < 8 → j ≠ i → ((adv s e).t j).how ≠ 2 := by
  have e1 : ((adv s e).t t).how = nx := by rw [hnx']; simp [adv, ht, advT]
  have e2 : ∀ i, i ≠ t → (adv s e).t i = s.t i := fun i hi => by simp [adv, ht, hi]
  rcases hI.hold with ⟨rfl, h⟩ | ⟨i, hi, rfl, a1, a2⟩
  · left
    refine ⟨rfl, fun i hi => ?_⟩
    by_cases hit : i = t
    · subst hit; rw [e1]; exact h1
    · rw [e2 i hit]; exact h i hi
  · right
    have hit : i ≠ t := fun e' => h2 (e' ▸ a1)
    refine ⟨i, hi, rfl, by rw [e2 i hit]; exact a1, fun j hj hji => ?_⟩
    by_cases hjt : j = t
    · subst hjt; rw [e1]; exact h1
    · rw [e2 j hjt]; exact a2 j hj hji
theorem hold_take {s : SS} {nx : Int} {t : Nat} {e : Ev} (ht : e.th.toNat = t) (h8 : t < 8)
    (hnx' : nx = nextI (s.t t).how e.kind e.err) (h1 : nx = 2) (hl : lockedB s t = false) : ((t : Int) = -1 ∧ ∀ i, i < 8 → ((adv s e).t i).how ≠ 2) ∨ ∃ i : Nat, i < 8 ∧ (t : Int) = i ∧ ((adv s e).t i).how = 2 ∧ ∀ j, j < 8 → j ≠ i → ((adv s e).t j).how ≠ 2 := by
  have e1 : ((adv s e).t t).how = nx := by rw [hnx']; simp [adv, ht, advT]
  have e2 : ∀ i, i ≠ t → (adv s e).t i = s.t i := fun i hi => by simp [adv, ht, hi]
  refine .inr ⟨t, h8, rfl, by rw [e1, h1], fun j hj hjt => ?_⟩
  rw [e2 j hjt]
  intro h
  have : lockedB s t = true := by
    unfold lockedB
    rw [List.any_eq_true]
    exact ⟨j, List.mem_range.2 hj, by simp [hjt, h]⟩
  rw [hl] at this
  cases this
theorem hold_free {w0 : World} {base b m : Nat} {s : SS} {mp : Nat → Option Nat} {tr : Nat → Int} {hd nx : Int} {At : Option Addr} {ct nt t : Nat} {vs : List Value} {e : Ev} (hI : LInv w0 base b m s mp tr hd At ct nt vs) (ht : e.th.toNat = t) (h8 : t < 8)
    (hnx' : nx = nextI (s.t t).how e.kind e.err) (h1 : nx ≠ 2) (h2 : (s.t t).how = 2) : ((-1 : Int) = -1 ∧ ∀ i, i < 8 → ((adv s e).t i).how ≠ 2) ∨ ∃ i : Nat, i < 8 ∧ (-1 : Int) = i ∧ ((adv s e).t i).how = 2 ∧ ∀ j, j < 8 → j ≠ i → ((adv s e).t j).how ≠ 2 := by
  have e1 : ((adv s e).t t).how = nx := by rw [hnx']; simp [adv, ht, advT]
  have e2 : ∀ i, i ≠ t → (adv s e).t i = s.t i := fun i hi => by simp [adv, ht, hi]
  refine .inl ⟨rfl, fun i hi => ?_⟩
  by_cases hit : i = t
  · subst hit; rw [e1]; exact h1
  · rw [e2 i hit]
    rcases hI.hold with ⟨_, h⟩ | ⟨k, _, _, a1, a2⟩
    · exact h i hi
    · by_cases hk : k = t
      · subst hk; exact a2 i hi hit
      · exact absurd h2 (a2 t h8 (fun e' => hk e'.symm))
end Go.Proofs.Ytjifpjfinffamaa
end
