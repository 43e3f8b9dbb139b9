/- Memory: lists of blocks, each with lists of entries of its own. -/
import Derived.Test.YtjifpjfinffamaaX1
import Derived.Test.YtjifpjfinffamaaLib3
namespace Go.Proofs.Ytjifpjfinffamaa
open Go.RowKit

theorem info43 : (Try.prog.info? 43).map (fun i => (i.zero, i.size, i.bytes)) = some (some (.agg #[.int .i64 0, .int .i64 0, .int .i64 0, .int .i64 0, .int .u64 0, .bool false, .int .i64 0, .slice none 0 0, .slice none 0 0]), 9, 104) := by kernel_rfl
theorem info47 : (Try.prog.info? 47).map (fun i => (i.zero, i.size, i.bytes)) = some (some (.agg #[.int .u64 0, .int .u64 0, .bool false]), 3, 24) := by kernel_rfl

structure Bl where
  th : Int
  kind : Int
  first : Nat
  last : Nat
  num : Int
  wr : Bool
  err : Int
  rd : List (Int × Int)
  wt : List (Int × Int)
def bl0 : Bl := ⟨0, 0, 0, 0, 0, false, 0, [], []⟩
def blAt (L : List Bl) (j : Nat) : Bl := L.getD j bl0
/-- cell i of a block whose lists are r and t -/
def bcell (b : Bl) (r t : Value) (i : Nat) : Value :=
  if i = 0 then .int .i64 b.th else if i = 1 then .int .i64 b.kind else if i = 2 then .int .i64 (b.first : Int) else if i = 3 then .int .i64 (b.last : Int) else if i = 4 then .int .u64 b.num
  else if i = 5 then .bool b.wr else if i = 6 then .int .i64 b.err else if i = 7 then r else t
abbrev blV (b : Bl) (r t : Value) : Value := .agg #[.int .i64 b.th, .int .i64 b.kind, .int .i64 (b.first : Int), .int .i64 (b.last : Int), .int .u64 b.num, .bool b.wr, .int .i64 b.err, r, t]
def bF (L : List Bl) (hd : Nat → Value) (i : Nat) : Value := bcell (blAt L (i / 9)) (hd (2 * (i / 9))) (hd (2 * (i / 9) + 1)) (i % 9)
def bEnt (b : Bl) (i : Nat) : List (Int × Int) := if i = 0 then b.rd else b.wt
def ent (L : List Bl) (i : Nat) : List (Int × Int) := bEnt (blAt L (i / 2)) (i % 2)
def ncell (p : Int × Int) : List Value := [.int .u64 p.1, .int .u64 p.2, .bool false]
theorem ncell_len (l : List (Int × Int)) : (l.flatMap ncell).length = l.length * 3 := by
  induction l with
  | nil => rfl
  | cons e r ih => simp [List.flatMap_cons, ih, ncell]; omega
theorem ncell_get : ∀ (l : List (Int × Int)) (i : Nat) (h : i < l.length), (l.flatMap ncell)[i * 3]? = some (.int .u64 l[i].1) ∧ (l.flatMap ncell)[i * 3 + 1]? = some (.int .u64 l[i].2) ∧ (l.flatMap ncell)[i * 3 + 2]? = some (.bool false)
  | [], i, h => by simp at h
  | e :: r, 0, h => by simp [List.flatMap_cons, ncell]
  | e :: r, i + 1, h => by
    have hi : i < r.length := by simpa using h
    have := ncell_get r i hi
    have e1 : (i + 1) * 3 = i * 3 + 3 := by omega
    have l3 : (ncell e).length = 3 := rfl
    rw [List.flatMap_cons, e1]
    refine ⟨?_, ?_, ?_⟩ <;> rw [List.getElem?_append_right (by rw [l3]; omega), l3]
    · simpa using this.1
    · rw [show i * 3 + 3 + 1 - 3 = i * 3 + 1 from by omega]; simpa using this.2.1
    · rw [show i * 3 + 3 + 2 - 3 = i * 3 + 2 from by omega]; simpa using this.2.2
theorem ncell_one (l : List (Int × Int)) : ∀ u ∈ l.flatMap ncell, u.oneCell' = true := by
  intro u hu
  obtain ⟨e, _, hu⟩ := List.mem_flatMap.1 hu
  simp [ncell] at hu
  rcases hu with rfl | rfl | rfl <;> rfl

/-- a list of entries that the call itself has made -/
def OwnN (w : World) (base : Nat) (v : Value) (l : List (Int × Int)) : Prop := w.ownsRow base 47 3 v l.length (l.flatMap ncell)
theorem OwnN.nil (w : World) (base : Nat) : OwnN w base (.slice none 0 0) [] := World.ownsRow_nil w base 47 3
theorem OwnN.kept {w w' : World} {base : Nat} {v : Value} {l : List (Int × Int)} (h : OwnN w base v l) (hk : ∀ g, v.ownBlock = some g → w'.heap[g]? = w.heap[g]?) : OwnN w' base v l := by
  refine ⟨(show _ ∧ _ from h).1, ?_⟩
  rcases (show _ ∨ _ from h.2) with h2 | ⟨g, cap, cur, hv, hbg, hh, h3⟩
  · exact .inl h2
  · exact .inr ⟨g, cap, cur, hv, hbg, (hk g (by rw [hv]; rfl)).trans hh, h3⟩
theorem OwnN.lt {w : World} {base : Nat} {v : Value} {l : List (Int × Int)} (h : OwnN w base v l) : ∀ g, v.ownBlock = some g → base ≤ g ∧ g < w.heap.size := fun g hg => World.ownsRow.lt h g hg
theorem OwnN.below {w w' : World} {base B : Nat} {v : Value} {l : List (Int × Int)} (h : OwnN w base v l) (hl : w.heap.size ≤ B) (hb : Below B w w') : OwnN w' base v l := h.kept fun g hg => hb.block g (by have := (h.lt g hg).2; omega)

/-- the slice v leads to the entries l, in a block from lo on and below B -/
def RN (w : World) (lo B : Nat) (v : Value) (l : List (Int × Int)) : Prop :=
  ∃ A c, v = .slice A l.length c ∧ (0 < l.length → ∃ g, A = some ⟨g, 0, none⟩ ∧ lo ≤ g ∧ g < B ∧ ∀ i (h : i < l.length), w.cell? ⟨g, i * 3, none⟩ = some (.int .u64 l[i].1) ∧ w.cell? ⟨g, i * 3 + 1, none⟩ = some (.int .u64 l[i].2) ∧ w.cell? ⟨g, i * 3 + 2, none⟩ = some (.bool false))
theorem RN.keep {w w' : World} {lo B : Nat} {v : Value} {l : List (Int × Int)} (h : RN w lo B v l) (hk : ∀ p : Addr, lo ≤ p.block → p.block < B → w'.cell? p = w.cell? p) : RN w' lo B v l := by
  obtain ⟨A, c, hv, hc⟩ := h
  refine ⟨A, c, hv, fun hp => ?_⟩
  obtain ⟨g, hA, h1, h2, h3⟩ := hc hp
  refine ⟨g, hA, h1, h2, fun i hi => ?_⟩
  obtain ⟨a, b, d⟩ := h3 i hi
  exact ⟨(hk ⟨g, i * 3, none⟩ h1 h2).trans a, (hk ⟨g, i * 3 + 1, none⟩ h1 h2).trans b, (hk ⟨g, i * 3 + 2, none⟩ h1 h2).trans d⟩
theorem RN.more {w : World} {lo B lo' B' : Nat} {v : Value} {l : List (Int × Int)} (h : RN w lo B v l) (h1 : lo' ≤ lo) (h2 : B ≤ B') : RN w lo' B' v l := by
  obtain ⟨A, c, hv, hc⟩ := h
  refine ⟨A, c, hv, fun hp => ?_⟩
  obtain ⟨g, hA, h3, h4, h5⟩ := hc hp
  exact ⟨g, hA, by omega, by omega, h5⟩
theorem OwnN.reads {w : World} {base : Nat} {v : Value} {l : List (Int × Int)} (h : OwnN w base v l) : RN w base w.heap.size v l := by
  obtain ⟨A, c, rfl⟩ := own_shape h
  refine ⟨A, c, rfl, fun hn => ?_⟩
  obtain ⟨g, cap, hv, hbg, hlt⟩ := World.ownsRow.form h hn
  have hA : A = some ⟨g, 0, none⟩ := by injection hv
  subst hA
  refine ⟨g, rfl, hbg, hlt, fun i hi => ?_⟩
  have hg := ncell_get l i hi
  have hcell : ∀ j u, (l.flatMap ncell)[j]? = some u → w.cell? ⟨g, j, none⟩ = some u := by
    intro j u hu
    have := World.ownsRow.cells h (g := g) rfl j u hu
    rw [Addr.add_lit, Nat.zero_add] at this
    exact this
  exact ⟨hcell _ _ hg.1, hcell _ _ hg.2.1, hcell _ _ hg.2.2⟩

/-- the slice leads to the blocks L, n of them -/
structure RB (w : World) (lo B : Nat) (A : Option Addr) (n : Nat) (L : List Bl) (hd : Nat → Value) : Prop where
  len : L.length = n
  row : 0 < n → ∃ g, A = some ⟨g, 0, none⟩ ∧ lo ≤ g ∧ g < B ∧ ∀ i, i < n * 9 → w.cell? ⟨g, i, none⟩ = some (bF L hd i)
  ent : ∀ i, i < 2 * n → RN w lo B (hd i) (ent L i)
theorem RB.keep {w w' : World} {lo B : Nat} {A : Option Addr} {n : Nat} {L : List Bl} {hd : Nat → Value} (h : RB w lo B A n L hd) (hk : ∀ p : Addr, lo ≤ p.block → p.block < B → w'.cell? p = w.cell? p) : RB w' lo B A n L hd := by
  refine ⟨h.len, fun hp => ?_, fun i hi => (h.ent i hi).keep hk⟩
  obtain ⟨g, hA, h1, h2, h3⟩ := h.row hp
  exact ⟨g, hA, h1, h2, fun i hi => (hk ⟨g, i, none⟩ h1 h2).trans (h3 i hi)⟩
theorem RB.below {w w' : World} {lo B : Nat} {A : Option Addr} {n : Nat} {L : List Bl} {hd : Nat → Value} (h : RB w lo B A n L hd) (hb : Below B w w') : RB w' lo B A n L hd := h.keep fun _ _ hp => hb.cell hp
theorem RB.more {w : World} {lo B lo' B' : Nat} {A : Option Addr} {n : Nat} {L : List Bl} {hd : Nat → Value} (h : RB w lo B A n L hd) (h1 : lo' ≤ lo) (h2 : B ≤ B') : RB w lo' B' A n L hd := by
  refine ⟨h.len, fun hp => ?_, fun i hi => (h.ent i hi).more h1 h2⟩
  obtain ⟨g, hA, h3, h4, h5⟩ := h.row hp
  exact ⟨g, hA, by omega, by omega, h5⟩
theorem bF_at (L : List Bl) (hd : Nat → Value) (j t : Nat) (ht : t < 9) : bF L hd (j * 9 + t) = bcell (blAt L j) (hd (2 * j)) (hd (2 * j + 1)) t := by
  unfold bF
  rw [show (j * 9 + t) / 9 = j by omega, show (j * 9 + t) % 9 = t by omega]
theorem ent_rd (L : List Bl) (j : Nat) : ent L (2 * j) = (blAt L j).rd := by
  unfold ent
  rw [show 2 * j / 2 = j by omega, show 2 * j % 2 = 0 by omega]
  rfl
theorem ent_wt (L : List Bl) (j : Nat) : ent L (2 * j + 1) = (blAt L j).wt := by
  unfold ent
  rw [show (2 * j + 1) / 2 = j by omega, show (2 * j + 1) % 2 = 1 by omega]
  rfl
/-- block j in memory: its nine cells and its two lists -/
structure BlC (w : World) (g j : Nat) (b : Bl) (r t : Value) : Prop where
  c0 : w.cell? ⟨g, j * 9, none⟩ = some (.int .i64 b.th)
  c1 : w.cell? ⟨g, j * 9 + 1, none⟩ = some (.int .i64 b.kind)
  c2 : w.cell? ⟨g, j * 9 + 2, none⟩ = some (.int .i64 (b.first : Int))
  c3 : w.cell? ⟨g, j * 9 + 3, none⟩ = some (.int .i64 (b.last : Int))
  c4 : w.cell? ⟨g, j * 9 + 4, none⟩ = some (.int .u64 b.num)
  c5 : w.cell? ⟨g, j * 9 + 5, none⟩ = some (.bool b.wr)
  c6 : w.cell? ⟨g, j * 9 + 6, none⟩ = some (.int .i64 b.err)
  c7 : w.cell? ⟨g, j * 9 + 7, none⟩ = some r
  c8 : w.cell? ⟨g, j * 9 + 8, none⟩ = some t
theorem RB.at_ {w w' : World} {lo B : Nat} {A : Option Addr} {n : Nat} {L : List Bl} {hd : Nat → Value} (h : RB w lo B A n L hd) (hb : Below B w w') {j : Nat} (hj : j < n) :
    ∃ g, A = some ⟨g, 0, none⟩ ∧ g < B ∧ BlC w' g j (blAt L j) (hd (2 * j)) (hd (2 * j + 1)) ∧ RN w' lo B (hd (2 * j)) (blAt L j).rd ∧ RN w' lo B (hd (2 * j + 1)) (blAt L j).wt := by
  have h' := h.below hb
  obtain ⟨g, hA, h1, h2, h3⟩ := h'.row (by omega)
  have hc : ∀ t, t < 9 → w'.cell? ⟨g, j * 9 + t, none⟩ = some (bcell (blAt L j) (hd (2 * j)) (hd (2 * j + 1)) t) := fun t ht => by
    rw [h3 (j * 9 + t) (by omega), bF_at L hd j t ht]
  refine ⟨g, hA, h2, ⟨hc 0 (by omega), hc 1 (by omega), hc 2 (by omega), hc 3 (by omega), hc 4 (by omega), hc 5 (by omega), hc 6 (by omega), hc 7 (by omega), hc 8 (by omega)⟩, ?_, ?_⟩
  · have := h'.ent (2 * j) (by omega)
    rwa [ent_rd] at this
  · have := h'.ent (2 * j + 1) (by omega)
    rwa [ent_wt] at this

/-- two slices that lie in no common block -/
def Ap (u v : Value) : Prop := ∀ g, u.ownBlock = some g → v.ownBlock ≠ some g
theorem Ap.symm {u v : Value} (h : Ap u v) : Ap v u := fun g h1 h2 => h g h2 h1
/-- n blocks of the call's own -/
structure HB (w : World) (base : Nat) (A : Option Addr) (n c : Nat) (L : List Bl) (hd : Nat → Value) : Prop where
  len : L.length = n
  row : w.ownsRow base 43 9 (.slice A n c) n ((List.range (n * 9)).map (bF L hd))
  own : ∀ i, i < 2 * n → OwnN w base (hd i) (ent L i)
  apart : ∀ i k, i < 2 * n → k < 2 * n → i ≠ k → Ap (hd i) (hd k)
section
variable {w w2 : World} {base : Nat} {A : Option Addr} {n c : Nat} {L : List Bl} {hd : Nat → Value}
theorem HB.nil (w : World) (base : Nat) (hd : Nat → Value) : HB w base none 0 0 [] hd := ⟨rfl, World.ownsRow_nil w base 43 9, fun i hi => by omega, fun i k hi => by omega⟩
theorem HB.base' {base' : Nat} (h : HB w base A n c L hd) (hb : base' ≤ base) : HB w base' A n c L hd := ⟨h.len, own_base h.row hb, fun i hi => own_base (h.own i hi) hb, h.apart⟩
/-- no list of entries lies in the blocks' own block -/
theorem row_ap {xs : List Value} {v : Value} {l : List (Int × Int)} (h : w.ownsRow base 43 9 (.slice A n c) n xs) (ho : OwnN w base v l) : Ap v (.slice A n c) := by
  intro g h1
  rcases h.2 with ⟨hn, _⟩ | ⟨g', cap, cur, hv, _, hh, _⟩
  · rw [hn]
    exact fun e => by cases e
  · rw [hv]
    intro e
    injection e with e
    subst e
    exact own_ne_blk ho hh (by decide) h1
theorem HB.ne (h : HB w base A n c L hd) {i : Nat} (hi : i < 2 * n) : Ap (hd i) (.slice A n c) := row_ap h.row (h.own i hi)
/-- what is not one of its blocks has changed -/
theorem HB.keep (h : HB w base A n c L hd) (h0 : ∀ g, (Value.slice A n c).ownBlock = some g → w2.heap[g]? = w.heap[g]?) (h1 : ∀ i, i < 2 * n → ∀ g, (hd i).ownBlock = some g → w2.heap[g]? = w.heap[g]?) : HB w2 base A n c L hd := by
  refine ⟨h.len, ⟨h.row.1, ?_⟩, fun i hi => (h.own i hi).kept (h1 i hi), h.apart⟩
  rcases h.row.2 with h2 | ⟨g', cap', cur, hv, hbg, hh, h3⟩
  · exact .inl h2
  · exact .inr ⟨g', cap', cur, hv, hbg, (h0 g' (by rw [hv]; rfl)).trans hh, h3⟩
theorem HB.below {B : Nat} (h : HB w base A n c L hd) (hl : w.heap.size ≤ B) (hb : Below B w w2) : HB w2 base A n c L hd :=
  h.keep (fun g hg => hb.block g (by have := (h.row.lt g hg).2; omega)) (fun i hi g hg => hb.block g (by have := ((h.own i hi).lt g hg).2; omega))
theorem HB.reads (h : HB w base A n c L hd) : RB w base w.heap.size A n L hd := by
  refine ⟨h.len, fun hn => ?_, fun i hi => (h.own i hi).reads⟩
  obtain ⟨g, cap, hv, hbg, hlt⟩ := h.row.form hn
  have hA : A = some ⟨g, 0, none⟩ := by injection hv
  subst hA
  refine ⟨g, rfl, hbg, hlt, fun i hi => ?_⟩
  rw [h.row.cellAt i (by omega)]
  simp [hi]
theorem HB.frozen {g : Nat} (h : HB w base (some ⟨g, 0, none⟩) n c L hd) (j : Nat) : w.frozen? ⟨g, j, none⟩ = false := h.row.frozenAt j
/-- cells of block j are written: a number each (not its lists) -/
theorem HB.set {g : Nat} (h : HB w base (some ⟨g, 0, none⟩) n c L hd) (j t : Nat) (v : Value) (b' : Bl) (hj : j < n) (ht : t < 7) (hb : ∀ i, i < 9 → (if i = t then v else bcell (blAt L j) (hd (2 * j)) (hd (2 * j + 1)) i) = bcell b' (hd (2 * j)) (hd (2 * j + 1)) i)
    (h1 : b'.rd = (blAt L j).rd) (h2 : b'.wt = (blAt L j).wt) : HB (w.setCell ⟨g, j * 9 + t, none⟩ v) base (some ⟨g, 0, none⟩) n c (L.set j b') hd := by
  have hst := (World.ownsRow.stored h.row (j * 9 + t) v)
  have hL := h.len
  have hat : ∀ i, blAt (L.set j b') i = if i = j then b' else blAt L i := fun i => by
    unfold blAt
    by_cases e : i = j
    · subst e
      simp [List.getD, show i < L.length by omega]
    · rw [if_neg e]
      simp only [List.getD]
      rw [List.getElem?_set_ne (fun e' => e e'.symm)]
  refine ⟨by rw [List.length_set]; exact hL, ?_, fun i hi => ?_, h.apart⟩
  · have e : (List.range (n * 9)).map (bF (L.set j b') hd) = ((List.range (n * 9)).map (bF L hd)).set (j * 9 + t) v := by
      apply List.ext_getElem?
      intro i
      by_cases hi : i < n * 9
      · by_cases e : i = j * 9 + t
        · subst e
          have := hb t (by omega)
          rw [if_pos rfl] at this
          simp [hi, bF_at _ _ j t (show t < 9 by omega), hat, ← this]
        · rw [List.getElem?_set_ne (fun e' => e e'.symm)]
          simp [hi]
          by_cases e2 : i / 9 = j
          · obtain ⟨s, hs, rfl⟩ : ∃ s, s < 9 ∧ i = j * 9 + s := ⟨i % 9, by omega, by omega⟩
            have := hb s hs
            rw [if_neg (by omega)] at this
            rw [bF_at _ _ j s hs, bF_at _ _ j s hs, hat, if_pos rfl, this]
          · unfold bF
            rw [hat, if_neg e2]
      · rw [List.getElem?_eq_none (by simp; omega), List.getElem?_eq_none (by simp; omega)]
    rw [e]
    exact hst.1
  · have he : ent (L.set j b') i = ent L i := by
      unfold ent
      rw [hat]
      by_cases e : i / 2 = j
      · rw [if_pos e, e]
        unfold bEnt
        rw [h1, h2]
      · rw [if_neg e]
    rw [he]
    refine (h.own i hi).kept fun g' hg' => ?_
    refine Below.heap_setCell w ⟨g, j * 9 + t, none⟩ v g' fun e => ?_
    exact h.ne hi g' hg' (congrArg some e.symm)
/-- a block more -/
theorem HB.push (h : HB w base A n c L hd) (b : Bl) (r t : Value) {g cap : Nat} (hr : OwnN w base r b.rd) (ht : OwnN w base t b.wt) (hrt : Ap r t) (har : ∀ i, i < 2 * n → Ap (hd i) r) (hat : ∀ i, i < 2 * n → Ap (hd i) t)
    (hg : w.grownBy w2 (Value.slice A n c).ownBlock) (ho : w2.ownsRow base 43 9 (.slice (some ⟨g, 0, none⟩) (n + 1) cap) (n + 1) ((List.range (n * 9)).map (bF L hd) ++ (List.range 9).map (bcell b r t))) :
    HB w2 base (some ⟨g, 0, none⟩) (n + 1) cap (L ++ [b]) (fun i => if i = 2 * n then r else if i = 2 * n + 1 then t else hd i) := by
  have hL := h.len
  have hbl : ∀ i, i < n + 1 → blAt (L ++ [b]) i = if i = n then b else blAt L i := fun i hi => by
    unfold blAt
    by_cases e : i = n
    · subst e
      simp [List.getD, ← hL]
    · rw [if_neg e]
      simp only [List.getD]
      rw [List.getElem?_append_left (by omega)]
  have hkeep : ∀ v l, OwnN w base v l → OwnN w2 base v l := fun v l hv => hv.kept fun g' hg' => by
    refine hg.block g' (hv.lt g' hg').2 fun e => ?_
    exact row_ap h.row hv g' hg' e.symm
  refine ⟨by simp [hL], ?_, fun i hi => ?_, fun i k hi hk hik => ?_⟩
  · have e : (List.range ((n + 1) * 9)).map (bF (L ++ [b]) fun i => if i = 2 * n then r else if i = 2 * n + 1 then t else hd i) = (List.range (n * 9)).map (bF L hd) ++ (List.range 9).map (bcell b r t) := by
      rw [show (n + 1) * 9 = n * 9 + 9 by omega, List.range_add, List.map_append, List.map_map]
      congr 1
      · refine List.map_congr_left fun i hi => ?_
        have hi' := List.mem_range.1 hi
        unfold bF
        dsimp only
        rw [hbl _ (by omega), if_neg (by omega), if_neg (by omega), if_neg (by omega), if_neg (by omega), if_neg (by omega)]
      · refine List.map_congr_left fun i hi => ?_
        have hi' := List.mem_range.1 hi
        show bF _ _ (n * 9 + i) = _
        rw [bF_at _ _ n i hi', hbl _ (by omega), if_pos rfl, if_pos rfl, if_neg (by omega), if_pos rfl]
    rw [e]
    exact ho
  · by_cases e1 : i = 2 * n
    · subst e1
      rw [if_pos rfl, ent_rd, hbl _ (by omega), if_pos rfl]
      exact hkeep _ _ hr
    · by_cases e2 : i = 2 * n + 1
      · subst e2
        rw [if_neg (by omega), if_pos rfl, ent_wt, hbl _ (by omega), if_pos rfl]
        exact hkeep _ _ ht
      · rw [if_neg e1, if_neg e2]
        have : ent (L ++ [b]) i = ent L i := by
          unfold ent
          rw [hbl _ (by omega), if_neg (by omega)]
        rw [this]
        exact hkeep _ _ (h.own i (by omega))
  · by_cases e1 : i = 2 * n
    · by_cases f2 : k = 2 * n + 1
      · rw [if_pos e1, if_neg (by omega), if_pos f2]; exact hrt
      · rw [if_pos e1, if_neg (by omega), if_neg f2]; exact (har k (by omega)).symm
    · by_cases e2 : i = 2 * n + 1
      · by_cases f1 : k = 2 * n
        · rw [if_neg e1, if_pos e2, if_pos f1]; exact hrt.symm
        · rw [if_neg e1, if_pos e2, if_neg f1, if_neg (by omega)]; exact (hat k (by omega)).symm
      · by_cases f1 : k = 2 * n
        · rw [if_neg e1, if_neg e2, if_pos f1]; exact har i (by omega)
        · by_cases f2 : k = 2 * n + 1
          · rw [if_neg e1, if_neg e2, if_neg f1, if_pos f2]; exact hat i (by omega)
          · rw [if_neg e1, if_neg e2, if_neg f1, if_neg f2]; exact h.apart i k (by omega) (by omega) hik
/-- one of the lists of block j is another one now; its header is stored -/
theorem HB.list {g : Nat} (h : HB w base (some ⟨g, 0, none⟩) n c L hd) (j s : Nat) (hs : s < 2) (v : Value) (b' : Bl) (hj : j < n)
    (hown : OwnN w2 base v (bEnt b' s)) (hgr : ∀ g', g' < w.heap.size → (hd (2 * j + s)).ownBlock ≠ some g' → w2.heap[g']? = w.heap[g']?)
    (hat : v.ownBlock = (hd (2 * j + s)).ownBlock ∨ ∃ g', v.ownBlock = some g' ∧ w.heap.size ≤ g')
    (hb : ∀ i r t, i < 7 → bcell b' r t i = bcell (blAt L j) r t i) (he : bEnt b' (1 - s) = bEnt (blAt L j) (1 - s)) :
    HB (w2.setCell ⟨g, j * 9 + 7 + s, none⟩ v) base (some ⟨g, 0, none⟩) n c (L.set j b') (fun i => if i = 2 * j + s then v else hd i) := by
  have hL := h.len
  have hbl : ∀ i, blAt (L.set j b') i = if i = j then b' else blAt L i := fun i => by
    unfold blAt
    by_cases e : i = j
    · subst e
      simp [List.getD, show i < L.length by omega]
    · rw [if_neg e]
      simp only [List.getD]
      rw [List.getElem?_set_ne (fun e' => e e'.symm)]
  have hgw : g < w.heap.size := (h.row.lt g rfl).2
  have hq : 2 * j + s < 2 * n := by omega
  have hnq : (hd (2 * j + s)).ownBlock ≠ some g := fun e => h.ne hq g e rfl
  have hvg : v.ownBlock ≠ some g := by
    rcases hat with h1 | ⟨g', h1, h2⟩
    · rw [h1]; exact hnq
    · rw [h1]
      intro e
      injection e with e
      omega
  have hrow2 : w2.ownsRow base 43 9 (.slice (some ⟨g, 0, none⟩) n c) n ((List.range (n * 9)).map (bF L hd)) := by
    refine ⟨h.row.1, ?_⟩
    rcases h.row.2 with h2 | ⟨g', cap', cur, hv, hbg, hh, h3⟩
    · exact .inl h2
    · refine .inr ⟨g', cap', cur, hv, hbg, ?_, h3⟩
      injection hv with hv
      injection hv with hv
      injection hv with hv
      subst hv
      exact (hgr g hgw hnq).trans hh
  have hst := World.ownsRow.stored hrow2 (j * 9 + 7 + s) v
  have hapv : ∀ i, i < 2 * n → i ≠ 2 * j + s → Ap (hd i) v := fun i hi hne g' h1 h2 => by
    rcases hat with h3 | ⟨g'', h3, h4⟩
    · exact h.apart i (2 * j + s) hi hq hne g' h1 (by rw [← h3]; exact h2)
    · rw [h3] at h2
      injection h2 with h2
      have := ((h.own i hi).lt g' h1).2
      omega
  refine ⟨by rw [List.length_set]; exact hL, ?_, fun i hi => ?_, fun i k hi hk hik => ?_⟩
  · have e : (List.range (n * 9)).map (bF (L.set j b') fun i => if i = 2 * j + s then v else hd i) = ((List.range (n * 9)).map (bF L hd)).set (j * 9 + 7 + s) v := by
      apply List.ext_getElem?
      intro i
      by_cases hi : i < n * 9
      · by_cases e : i = j * 9 + 7 + s
        · subst e
          simp only [List.getElem?_map, List.getElem?_range hi, Option.map_some, List.getElem?_set_self (show j * 9 + 7 + s < ((List.range (n * 9)).map (bF L hd)).length by simp; omega)]
          rw [show j * 9 + 7 + s = j * 9 + (7 + s) by omega, bF_at _ _ j (7 + s) (by omega)]
          have : s = 0 ∨ s = 1 := by omega
          rcases this with rfl | rfl <;> simp [bcell]
        · rw [List.getElem?_set_ne (fun e' => e e'.symm)]
          simp only [List.getElem?_map, List.getElem?_range hi, Option.map_some]
          congr 1
          by_cases e2 : i / 9 = j
          · obtain ⟨q, hq', rfl⟩ : ∃ q, q < 9 ∧ i = j * 9 + q := ⟨i % 9, by omega, by omega⟩
            rw [bF_at _ _ j q hq', bF_at _ _ j q hq', hbl, if_pos rfl]
            by_cases h7 : q < 7
            · rw [hb q _ _ h7]
              simp only [bcell]
              have : ¬ q = 7 := by omega
              have : q = 0 ∨ q = 1 ∨ q = 2 ∨ q = 3 ∨ q = 4 ∨ q = 5 ∨ q = 6 := by omega
              rcases this with rfl | rfl | rfl | rfl | rfl | rfl | rfl <;> simp
            · have h78 : q = 7 ∨ q = 8 := by omega
              have : s = 0 ∨ s = 1 := by omega
              rcases h78 with rfl | rfl <;> rcases this with rfl | rfl <;> first | omega | (simp [bcell])
          · unfold bF
            dsimp only
            rw [hbl, if_neg e2, if_neg (by omega), if_neg (by omega)]
      · rw [List.getElem?_eq_none (by simp; omega), List.getElem?_eq_none (by simp; omega)]
    rw [e]
    exact hst.1
  · by_cases e : i = 2 * j + s
    · subst e
      rw [if_pos rfl]
      have e2 : ent (L.set j b') (2 * j + s) = bEnt b' s := by
        unfold ent
        rw [show (2 * j + s) / 2 = j by omega, show (2 * j + s) % 2 = s by omega, hbl, if_pos rfl]
      rw [e2]
      exact hown.kept fun g' hg' => Below.heap_setCell w2 ⟨g, j * 9 + 7 + s, none⟩ v g' fun e' => hvg (by rw [hg']; exact congrArg some e')
    · rw [if_neg e]
      have e2 : ent (L.set j b') i = ent L i := by
        unfold ent
        rw [hbl]
        by_cases e3 : i / 2 = j
        · rw [if_pos e3, e3]
          have : i % 2 = 1 - s := by omega
          rw [this]
          exact he
        · rw [if_neg e3]
      rw [e2]
      refine (h.own i hi).kept fun g' hg' => ?_
      rw [Below.heap_setCell w2 ⟨g, j * 9 + 7 + s, none⟩ v g' fun e' => h.ne hi g' hg' (congrArg some e'.symm)]
      exact hgr g' ((h.own i hi).lt g' hg').2 fun e' => h.apart i (2 * j + s) hi hq e g' hg' e'
  · by_cases e : i = 2 * j + s
    · rw [if_pos e, if_neg (by omega)]
      exact (hapv k hk (by omega)).symm
    · by_cases f : k = 2 * j + s
      · rw [if_neg e, if_pos f]; exact hapv i hi e
      · rw [if_neg e, if_neg f]; exact h.apart i k hi hk hik
end
end Go.Proofs.Ytjifpjfinffamaa
