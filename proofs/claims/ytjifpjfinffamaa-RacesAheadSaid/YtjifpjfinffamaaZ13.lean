/- Texts R4 YI YJ R5 R8b R6 R7 R7b R8, laid together. -/
import Derived.Test.YtjifpjfinffamaaZ12
import Derived.BigRegion
import Derived.Handy
import Derived.StillTailTactics
import Derived.BigQuiet
import Derived.Deep.LoopGhost
import Derived.Deep.OwnRows
section
namespace Go.Proofs.Ytjifpjfinffamaa
section
variable (P : List Pt) (s : List Nat)
def thP (p : Nat) : Nat := (ptAt P p).th.toNat
def ownP (t : Nat) : List Nat := s.filter fun p => thP P p == t
def tnP (p : Nat) : Nat := (ownP P s (thP P p)).idxOf p
end
theorem pw_lt {P : List Pt} {L : List Nat} (h : L.Pairwise fun a b => (ptAt P a).fi < (ptAt P b).fi) {i j p q : Nat} (hi : L[i]? = some p) (hj : L[j]? = some q) : i < j ↔ (ptAt P p).fi < (ptAt P q).fi := by
  obtain ⟨h1, e1⟩ := List.getElem?_eq_some_iff.1 hi
  obtain ⟨h2, e2⟩ := List.getElem?_eq_some_iff.1 hj
  have h' := List.pairwise_iff_getElem.1 h
  constructor
  · intro hij
    have := h' i j h1 h2 hij
    rwa [e1, e2] at this
  · intro hf
    rcases Nat.lt_trichotomy i j with c | c | c
    · exact c
    · subst c
      rw [← e1, ← e2] at hf
      omega
    · have := h' j i h2 h1 c
      rw [e1, e2] at this
      omega
theorem pw_inj {P : List Pt} {L : List Nat} (h : L.Pairwise fun a b => (ptAt P a).fi < (ptAt P b).fi) {i j p : Nat} (hi : L[i]? = some p) (hj : L[j]? = some p) : i = j := by
  have a := pw_lt h hi hj
  have b := pw_lt h hj hi
  omega
section
variable {l : List Ev} {bl : List Bl} {lk : List Nat} {s : List Nat}
structure Srt (l : List Ev) (bl : List Bl) (s : List Nat) : Prop where
  mem : ∀ p, p ∈ s ↔ p < (pts l bl).length
  pw : s.Pairwise fun a b => (ptAt (pts l bl) a).fi < (ptAt (pts l bl) b).fi
theorem Srt.own_pw (h : Srt l bl s) (t : Nat) : (ownP (pts l bl) s t).Pairwise fun a b => (ptAt (pts l bl) a).fi < (ptAt (pts l bl) b).fi := h.pw.sublist List.filter_sublist
theorem Srt.own_mem (h : Srt l bl s) {t p : Nat} : p ∈ ownP (pts l bl) s t ↔ p < (pts l bl).length ∧ thP (pts l bl) p = t := by
  unfold ownP
  rw [List.mem_filter, h.mem]
  simp
theorem Srt.own_at (h : Srt l bl s) {p : Nat} (hp : p < (pts l bl).length) : (ownP (pts l bl) s (thP (pts l bl) p))[tnP (pts l bl) s p]? = some p := by
  have hm : p ∈ ownP (pts l bl) s (thP (pts l bl) p) := h.own_mem.2 ⟨hp, rfl⟩
  unfold tnP
  rw [List.getElem?_eq_getElem (List.idxOf_lt_length_of_mem hm), List.getElem_idxOf]
theorem Srt.own_of (h : Srt l bl s) {t d p : Nat} (hd : (ownP (pts l bl) s t)[d]? = some p) : p < (pts l bl).length ∧ thP (pts l bl) p = t ∧ tnP (pts l bl) s p = d := by
  obtain ⟨h1, h2⟩ := h.own_mem.1 (List.mem_of_getElem? hd)
  refine ⟨h1, h2, ?_⟩
  have := h.own_at h1
  rw [h2] at this
  exact pw_inj (h.own_pw t) this hd
theorem Srt.tn_lt (h : Srt l bl s) {p q : Nat} (hp : p < (pts l bl).length) (hq : q < (pts l bl).length) (ht : thP (pts l bl) p = thP (pts l bl) q) : tnP (pts l bl) s p < tnP (pts l bl) s q ↔ (ptAt (pts l bl) p).fi < (ptAt (pts l bl) q).fi := by
  have a := h.own_at hp
  rw [ht] at a
  exact pw_lt (h.own_pw _) a (h.own_at hq)
def sgP (bl : List Bl) (lk : List Nat) : List Nat := (ordS bl lk bl.length).map (plc bl)
theorem sgP_at {i p : Nat} (h : (sgP bl lk)[i]? = some p) : ∃ k, (ordS bl lk bl.length)[i]? = some k ∧ k < bl.length ∧ OverB (blAt bl k) = true ∧ p = plc bl k := by
  unfold sgP at h
  rw [List.getElem?_map] at h
  cases hk : (ordS bl lk bl.length)[i]? with
  | none => rw [hk] at h; cases h
  | some k =>
    rw [hk] at h
    injection h with h
    have hm := List.mem_of_getElem? hk
    exact ⟨k, rfl, ordS_lt hm, ordS_over hm, h.symm⟩
theorem ord_lt (hP : PartL lk bl.length) {i j a b : Nat} (hi : (ordS bl lk bl.length)[i]? = some a) (hj : (ordS bl lk bl.length)[j]? = some b) : i < j ↔ befL bl lk a b = true := by
  obtain ⟨h1, e1⟩ := List.getElem?_eq_some_iff.1 hi
  obtain ⟨h2, e2⟩ := List.getElem?_eq_some_iff.1 hj
  have h' := List.pairwise_iff_getElem.1 (ordS_sorted (bl := bl) hP bl.length (Nat.le_refl _))
  constructor
  · intro hij
    have := h' i j h1 h2 hij
    rwa [e1, e2] at this
  · intro hb
    rcases Nat.lt_trichotomy i j with c | c | c
    · exact c
    · subst c
      have : a = b := by rw [← e1, ← e2]
      subst this
      rw [befL_irrefl] at hb
      cases hb
    · have := h' j i h2 h1 c
      rw [e1, e2] at this
      have := befL_trans hb this
      rw [befL_irrefl] at this
      cases this
theorem ord_mem {k : Nat} (hk : k < bl.length) (ho : OverB (blAt bl k) = true) : k ∈ ordS bl lk bl.length := (ordS_perm bl lk bl.length).mem_iff.2 (List.mem_filter.2 ⟨List.mem_range.2 hk, ho⟩)
theorem cal_ok (h : BlkF l bl lk) (hP : PartL lk bl.length) (hth : ∀ e ∈ l, 0 ≤ e.th ∧ e.th < 8) (hs : Srt l bl s) : Cal (pts l bl).length (thP (pts l bl)) (tnP (pts l bl) s) (ownP (pts l bl) s) (sgP bl lk) := by
  refine ⟨fun p hp => hs.own_at hp, fun t d p hd => hs.own_of hd, fun i p hi => ?_, fun i j p hi hj => ?_, fun i j p q hi hj ht hlt => ?_⟩
  · obtain ⟨k, _, h2, h3, rfl⟩ := sgP_at hi
    exact (pts_block h2 h3).1
  · obtain ⟨k, h1, h2, h3, e1⟩ := sgP_at hi
    obtain ⟨k', g1, g2, g3, e2⟩ := sgP_at hj
    obtain rfl := plc_inj h3 g3 (e1.symm.trans e2)
    have a := ord_lt hP h1 g1
    have b := ord_lt hP g1 h1
    rw [befL_irrefl] at a b
    have a' : ¬ i < j := fun q => by have := a.1 q; cases this
    have b' : ¬ j < i := fun q => by have := b.1 q; cases this
    omega
  · obtain ⟨k, h1, h2, h3, rfl⟩ := sgP_at hi
    obtain ⟨k', g1, g2, g3, rfl⟩ := sgP_at hj
    obtain ⟨p1, p2⟩ := pts_block (l := l) h2 h3
    obtain ⟨q1, q2⟩ := pts_block (l := l) g2 g3
    have hfi := (hs.tn_lt p1 q1 ht).1 hlt
    have hte : (blAt bl k).th = (blAt bl k').th := by
      have t1 := pts_thr h hth p1
      have t2 := pts_thr h hth q1
      unfold thP at ht
      rw [p2] at t1 ht
      rw [q2] at t2 ht
      simp only [ptOfB] at t1 t2 ht
      omega
    rw [p2, q2] at hfi
    simp only [ptOfB] at hfi
    have hkk : k < k' := by
      rcases Nat.lt_trichotomy k k' with c | c | c
      · exact c
      · subst c; omega
      · have := h.inc k' k c h2; omega
    exact (ord_lt hP h1 g1).2 (h.pair k k' hkk g2 hte).2
def baseA (l : List Ev) (bl : List Bl) (lk : List Nat) (p q : Nat) : Bool :=
  decide (p < (pts l bl).length ∧ q < (pts l bl).length) && ((decide ((ptAt (pts l bl) p).th = (ptAt (pts l bl) q).th) && decide ((ptAt (pts l bl) p).fi < (ptAt (pts l bl) q).fi)) ||
    (decide (p ≠ q) && decide (0 ≤ (ptAt (pts l bl) p).bk) && decide (0 ≤ (ptAt (pts l bl) q).bk) && befL bl lk (ptAt (pts l bl) p).bk.toNat (ptAt (pts l bl) q).bk.toNat))
theorem baseA_step (h : BlkF l bl lk) (hP : PartL lk bl.length) (hth : ∀ e ∈ l, 0 ≤ e.th ∧ e.th < 8) (hs : Srt l bl s) (p q : Nat) : baseA l bl lk p q = true ↔ StepR (pts l bl).length (thP (pts l bl)) (tnP (pts l bl) s) (sgP bl lk) p q := by
  unfold baseA StepR
  by_cases hpq : p < (pts l bl).length ∧ q < (pts l bl).length
  · obtain ⟨hp, hq⟩ := hpq
    have t1 := pts_thr h hth hp
    have t2 := pts_thr h hth hq
    have e1 : (ptAt (pts l bl) p).th = (ptAt (pts l bl) q).th ↔ thP (pts l bl) p = thP (pts l bl) q := by unfold thP; omega
    simp only [hp, hq, and_self, decide_true, Bool.true_and, true_and, Bool.or_eq_true, Bool.and_eq_true, decide_eq_true_eq]
    constructor
    · rintro (⟨h1, h2⟩ | ⟨⟨⟨h1, h2⟩, h3⟩, h4⟩)
      · exact .inl ⟨e1.1 h1, (hs.tn_lt hp hq (e1.1 h1)).2 h2⟩
      · right
        rcases pts_inv hp with ⟨i, a1, a2, a3, a4⟩ | ⟨i, _, _, _, a4⟩
        · rcases pts_inv hq with ⟨k, b1, b2, b3, b4⟩ | ⟨k, _, _, _, b4⟩
          · rw [a4, b4] at h4
            simp only [ptOfB, Int.toNat_natCast] at h4
            obtain ⟨x, hx⟩ := List.mem_iff_getElem?.1 (ord_mem (lk := lk) a1 a2)
            obtain ⟨y, hy⟩ := List.mem_iff_getElem?.1 (ord_mem (lk := lk) b1 b2)
            refine ⟨x, y, (ord_lt hP hx hy).2 h4, ?_, ?_⟩
            · unfold sgP
              rw [List.getElem?_map, hx, a3]
              rfl
            · unfold sgP
              rw [List.getElem?_map, hy, b3]
              rfl
          · rw [b4] at h3
            simp [ptOfE] at h3
        · rw [a4] at h2
          simp [ptOfE] at h2
    · rintro (⟨h1, h2⟩ | ⟨i, j, hij, h1, h2⟩)
      · exact .inl ⟨e1.2 h1, (hs.tn_lt hp hq h1).1 h2⟩
      · right
        obtain ⟨k, a1, a2, a3, rfl⟩ := sgP_at h1
        obtain ⟨k', b1, b2, b3, rfl⟩ := sgP_at h2
        have hb := (ord_lt hP a1 b1).1 hij
        rw [(pts_block (l := l) a2 a3).2, (pts_block (l := l) b2 b3).2]
        simp only [ptOfB, Int.toNat_natCast]
        refine ⟨⟨⟨fun e => ?_, by omega⟩, by omega⟩, hb⟩
        have := plc_inj a3 b3 e
        subst this
        rw [befL_irrefl] at hb
        cases hb
  · have : decide (p < (pts l bl).length ∧ q < (pts l bl).length) = false := decide_eq_false hpq
    rw [this]
    simp only [Bool.false_and, Bool.false_eq_true, false_iff]
    exact fun hh => hpq hh.1
def aheadP (l : List Ev) (bl : List Bl) (lk : List Nat) (p q : Nat) : Bool := fwN (baseA l bl lk) (pts l bl).length p q
theorem Cl.iff {R R' : Nat → Nat → Prop} (h : ∀ p q, R p q ↔ R' p q) (p q : Nat) : Cl R p q ↔ Cl R' p q := ⟨fun c => c.mono fun a b hr => (h a b).1 hr, fun c => c.mono fun a b hr => (h a b).2 hr⟩
theorem aheadP_iff (h : BlkF l bl lk) (hP : PartL lk bl.length) (hth : ∀ e ∈ l, 0 ≤ e.th ∧ e.th < 8) (hs : Srt l bl s) (p q : Nat) : aheadP l bl lk p q = true ↔ Cl (StepR (pts l bl).length (thP (pts l bl)) (tnP (pts l bl) s) (sgP bl lk)) p q := by
  unfold aheadP
  rw [fwN_iff]
  · exact Cl.iff (baseA_step h hP hth hs) p q
  · intro i j hij
    unfold baseA at hij
    simp only [Bool.and_eq_true, decide_eq_true_eq] at hij
    exact hij.1
end
end Go.Proofs.Ytjifpjfinffamaa
end
section
namespace Go.Proofs.Ytjifpjfinffamaa
open Go.RowKit
def b5 : Bl := ⟨0, 1, 0, 4, 1, true, 0, [(0, 5)], [(1, 6)]⟩
def W5 (w : World) : World := w.alloc (.cells #[.int .i64 0, .int .i64 1, .int .u64 0, .int .u64 0, .bool false, .int .i64 0, .int .i64 0, .int .i64 2, .int .u64 0, .int .u64 5, .bool false, .int .i64 0, .int .i64 0, .int .i64 3, .int .u64 1, .int .u64 6, .bool false, .int .i64 0, .int .i64 0, .int .i64 5, .int .u64 0, .int .u64 0, .bool false, .int .i64 0, .int .i64 0, .int .i64 6, .int .u64 0, .int .u64 1, .bool false, .int .i64 0] 97)
end Go.Proofs.Ytjifpjfinffamaa
end
section
namespace Go.Proofs.Ytjifpjfinffamaa
open Go.RowKit
structure Kp (a b : World) (lo hi : Nat) : Prop where
  os : b.os = a.os
  tape : b.tape = a.tape
  output : b.output = a.output
  size : b.heap.size = a.heap.size
  block : ∀ k, k < lo ∨ hi ≤ k → b.heap[k]? = a.heap[k]?
theorem Kp.refl (a : World) (lo hi : Nat) : Kp a a lo hi := ⟨rfl, rfl, rfl, rfl, fun _ _ => rfl⟩
theorem Kp.set {a b : World} {lo hi : Nat} (h : Kp a b lo hi) (p : Addr) (v : Value) (h1 : lo ≤ p.block) (h2 : p.block < hi) : Kp a (b.setCell p v) lo hi :=
  ⟨h.os, h.tape, h.output, by simpa using h.size, fun k hk => (Below.heap_setCell b p v k (by omega)).trans (h.block k hk)⟩
theorem Kp.drewN {a b : World} {lo hi : Nat} (h : Kp a b lo hi) (m : Nat) : Kp a (b.drewN m) lo hi := ⟨h.os, h.tape, h.output, h.size, h.block⟩
theorem Kp.below {w a b : World} {lo hi B : Nat} (h : Kp a b lo hi) (hb : Below B w a) (hB : B ≤ lo) : Below B w b :=
  ⟨h.os.trans hb.os, h.tape.trans hb.tape, h.output.trans hb.output, by rw [h.size]; exact hb.size, fun k hk => (h.block k (.inl (by omega))).trans (hb.block k hk)⟩
theorem Kp.rb {a b : World} {lo hi l0 B : Nat} {A : Option Addr} {n : Nat} {L : List Bl} {hd : Nat → Value} (h : Kp a b lo hi) (hr : RB a l0 B A n L hd) (hlo : hi ≤ l0 ∨ B ≤ lo) : RB b l0 B A n L hd :=
  hr.keep fun p h1 h2 => World.cell?_of_block (w := a) (h.block p.block (by omega))
structure LO (w : World) (base hi : Nat) (A : Option Addr) (n c : Nat) (hd : Nat → Value) (i0 : Nat) : Prop where
  row : ∃ xs, w.ownsRow base 43 9 (.slice A n c) n xs ∧ ∀ j, i0 ≤ j → j < n → xs[j * 9 + 7]? = some (hd (2 * j)) ∧ xs[j * 9 + 8]? = some (hd (2 * j + 1))
  own : ∀ i, i < 2 * n → ∃ m ys, w.ownsRow base 47 3 (hd i) m ys
  apart : ∀ i k, i < 2 * n → k < 2 * n → i ≠ k → Ap (hd i) (hd k)
  rhi : ∀ g, (Value.slice A n c).ownBlock = some g → g < hi
  ohi : ∀ i, i < 2 * n → ∀ g, (hd i).ownBlock = some g → g < hi
section
variable {w : World} {base hi : Nat} {A : Option Addr} {n c : Nat} {hd : Nat → Value} {i0 : Nat}
theorem LO.of {w1 : World} {L : List Bl} (h : HB w1 base A n c L hd) (hb : Below w1.heap.size w1 w) : LO w base w1.heap.size A n c hd 0 := by
  have h' := h.below (Nat.le_refl _) hb
  refine ⟨⟨_, h'.row, fun j _ hj => ?_⟩, fun i hi => ⟨_, _, h'.own i hi⟩, h.apart, fun g hg => (h.row.lt g hg).2, fun i hi g hg => ((h.own i hi).lt g hg).2⟩
  constructor
  · simp only [List.getElem?_map, List.getElem?_range (show j * 9 + 7 < n * 9 by omega), Option.map_some, bF_at _ _ j 7 (by decide)]
    rfl
  · simp only [List.getElem?_map, List.getElem?_range (show j * 9 + 8 < n * 9 by omega), Option.map_some, bF_at _ _ j 8 (by decide)]
    rfl
theorem LO.drewN (h : LO w base hi A n c hd i0) (m : Nat) : LO (w.drewN m) base hi A n c hd i0 := ⟨h.row, h.own, h.apart, h.rhi, h.ohi⟩
theorem LO.at_ (h : LO w base hi A n c hd i0) {j : Nat} (hj : i0 ≤ j) (hn : j < n) :
    ∃ g v0 v1 v2 v3 v4 v5 v6 Ar nr cr At nt ct, A = some ⟨g, 0, none⟩ ∧ base ≤ g ∧ g < hi ∧ hd (2 * j) = .slice Ar nr cr ∧ hd (2 * j + 1) = .slice At nt ct ∧
      (w.cell? ⟨g, j * 9, none⟩ = some v0 ∧ w.cell? ⟨g, j * 9 + 1, none⟩ = some v1 ∧ w.cell? ⟨g, j * 9 + 2, none⟩ = some v2 ∧ w.cell? ⟨g, j * 9 + 3, none⟩ = some v3 ∧ w.cell? ⟨g, j * 9 + 4, none⟩ = some v4 ∧ w.cell? ⟨g, j * 9 + 5, none⟩ = some v5 ∧ w.cell? ⟨g, j * 9 + 6, none⟩ = some v6 ∧
        w.cell? ⟨g, j * 9 + 7, none⟩ = some (.slice Ar nr cr) ∧ w.cell? ⟨g, j * 9 + 8, none⟩ = some (.slice At nt ct)) ∧ ∀ t, w.frozen? ⟨g, t, none⟩ = false := by
  obtain ⟨xs, hr, hx⟩ := h.row
  obtain ⟨g, cap, hv, hbg, hlt⟩ := hr.form (by omega)
  have hA : A = some ⟨g, 0, none⟩ := by injection hv
  subst hA
  obtain ⟨lr, _, hlr⟩ := h.own (2 * j) (by omega)
  obtain ⟨lt, _, hlt'⟩ := h.own (2 * j + 1) (by omega)
  obtain ⟨Ar, cr, er⟩ := own_shape hlr
  obtain ⟨At, ct, et⟩ := own_shape hlt'
  obtain ⟨h7, h8⟩ := hx j hj hn
  rw [er] at h7
  rw [et] at h8
  have hlen := hr.1
  have hc : ∀ t, (ht : t < 9) → w.cell? ⟨g, j * 9 + t, none⟩ = some (xs[j * 9 + t]'(by rw [hlen]; omega)) := fun t ht => by
    rw [hr.cellAt (j * 9 + t) (by omega)]
    exact List.getElem?_eq_getElem (by rw [hlen]; omega)
  refine ⟨g, _, _, _, _, _, _, _, Ar, _, cr, At, _, ct, rfl, hbg, h.rhi g rfl, er, et, ⟨hc 0 (by decide), hc 1 (by decide), hc 2 (by decide), hc 3 (by decide), hc 4 (by decide), hc 5 (by decide), hc 6 (by decide), ?_, ?_⟩, fun t => hr.frozenAt t⟩
  · rw [hr.cellAt (j * 9 + 7) (by omega)]
    exact h7
  · rw [hr.cellAt (j * 9 + 8) (by omega)]
    exact h8
theorem LO.zero {g : Nat} (h : LO w base hi (some ⟨g, 0, none⟩) n c hd i0) (_hn : i0 < n) (v0 v1 v2 v3 v4 v5 v6 v7 v8 : Value) :
    LO (((((((((w.setCell ⟨g, i0 * 9, none⟩ v0).setCell ⟨g, i0 * 9 + 1, none⟩ v1).setCell ⟨g, i0 * 9 + 2, none⟩ v2).setCell ⟨g, i0 * 9 + 3, none⟩ v3).setCell ⟨g, i0 * 9 + 4, none⟩ v4).setCell ⟨g, i0 * 9 + 5, none⟩ v5).setCell ⟨g, i0 * 9 + 6, none⟩ v6).setCell ⟨g, i0 * 9 + 7, none⟩ v7).setCell ⟨g, i0 * 9 + 8, none⟩ v8) base hi (some ⟨g, 0, none⟩) n c hd (i0 + 1) := by
  obtain ⟨xs, hr, hx⟩ := h.row
  have h1 := (World.ownsRow.stored hr (i0 * 9) v0).1
  have h2 := (World.ownsRow.stored h1 (i0 * 9 + 1) v1).1
  have h3 := (World.ownsRow.stored h2 (i0 * 9 + 2) v2).1
  have h4 := (World.ownsRow.stored h3 (i0 * 9 + 3) v3).1
  have h5 := (World.ownsRow.stored h4 (i0 * 9 + 4) v4).1
  have h6 := (World.ownsRow.stored h5 (i0 * 9 + 5) v5).1
  have h7 := (World.ownsRow.stored h6 (i0 * 9 + 6) v6).1
  have h8 := (World.ownsRow.stored h7 (i0 * 9 + 7) v7).1
  have h9 := (World.ownsRow.stored h8 (i0 * 9 + 8) v8).1
  refine ⟨⟨_, h9, fun j hj hn => ?_⟩, fun i hi' => ?_, h.apart, h.rhi, h.ohi⟩
  · obtain ⟨a, b⟩ := hx j (by omega) hn
    constructor
    · rw [List.getElem?_set_ne (by omega), List.getElem?_set_ne (by omega), List.getElem?_set_ne (by omega), List.getElem?_set_ne (by omega), List.getElem?_set_ne (by omega), List.getElem?_set_ne (by omega), List.getElem?_set_ne (by omega), List.getElem?_set_ne (by omega), List.getElem?_set_ne (by omega)]
      exact a
    · rw [List.getElem?_set_ne (by omega), List.getElem?_set_ne (by omega), List.getElem?_set_ne (by omega), List.getElem?_set_ne (by omega), List.getElem?_set_ne (by omega), List.getElem?_set_ne (by omega), List.getElem?_set_ne (by omega), List.getElem?_set_ne (by omega), List.getElem?_set_ne (by omega)]
      exact b
  · obtain ⟨m, ys, hy⟩ := h.own i hi'
    refine ⟨m, ys, hy.1, ?_⟩
    rcases hy.2 with q | ⟨g', cap', cur, hv, hbg, hh, q⟩
    · exact .inl q
    · have hne : g' ≠ g := by
        intro e
        subst e
        exact own_far hr hy (by decide) g' rfl (by rw [hv]; rfl)
      refine .inr ⟨g', cap', cur, hv, hbg, ?_, q⟩
      rw [Below.heap_setCell _ ⟨g, _, none⟩ _ g' hne, Below.heap_setCell _ ⟨g, _, none⟩ _ g' hne, Below.heap_setCell _ ⟨g, _, none⟩ _ g' hne, Below.heap_setCell _ ⟨g, _, none⟩ _ g' hne, Below.heap_setCell _ ⟨g, _, none⟩ _ g' hne, Below.heap_setCell _ ⟨g, _, none⟩ _ g' hne, Below.heap_setCell _ ⟨g, _, none⟩ _ g' hne, Below.heap_setCell _ ⟨g, _, none⟩ _ g' hne, Below.heap_setCell _ ⟨g, _, none⟩ _ g' hne]
      exact hh
end
theorem zip_same {α β : Type} {a c : List α} {b d : List β} (h1 : b.length = a.length) (h2 : d.length = c.length) (h : a.zip b = c.zip d) : a = c ∧ b = d := by
  have e1 := List.map_fst_zip (l₁ := a) (l₂ := b) (by omega)
  have e2 := List.map_fst_zip (l₁ := c) (l₂ := d) (by omega)
  have e3 := List.map_snd_zip (l₁ := a) (l₂ := b) (by omega)
  have e4 := List.map_snd_zip (l₁ := c) (l₂ := d) (by omega)
  exact ⟨by rw [← e1, h, e2], by rw [← e3, h, e4]⟩
theorem doc_same {l : List Ev} (hk : chk ss0 l 0 = (-1, 0)) {bl : List Bl} {lk : List Nat} (h : docX l l 0 = bl.zip lk) (hl : lk.length = bl.length) : bl = wBl l ∧ lk = wLk l := by
  rw [cut_doc l hk] at h
  exact (fun q => ⟨q.1.symm, q.2.symm⟩) (zip_same (wLk_len l) hl h)
end Go.Proofs.Ytjifpjfinffamaa
end
section
namespace Go.Proofs.Ytjifpjfinffamaa
open Go.RowKit
theorem info170 : (Try.prog.info? 170).map (fun i => (i.zero, i.size, i.bytes)) = some (some (.agg #[.int .i64 0, .int .i64 0, .int .i64 0, .int .i64 0, .int .i64 0, .int .i64 0, .int .i64 0, .int .i64 0, .int .i64 0, .int .i64 0, .int .i64 0, .int .i64 0, .int .i64 0]), 13, 104) := by kernel_rfl
def pcell (x : Pt) (sn : Nat → Nat) (tn : Nat) (i : Nat) : Value :=
  if i = 0 then .int .i64 x.th else if i = 1 then .int .i64 (x.fi : Int) else if i = 2 then .int .i64 (x.la : Int) else if i = 3 then .int .i64 x.bk else if i = 12 then .int .i64 (tn : Int) else .int .i64 ((sn (i - 4) : Nat) : Int)
def pF (P : List Pt) (sn : Nat → Nat → Nat) (tn : Nat → Nat) (i : Nat) : Value := pcell (ptAt P (i / 13)) (sn (i / 13)) (tn (i / 13)) (i % 13)
theorem pF_at (P : List Pt) (sn : Nat → Nat → Nat) (tn : Nat → Nat) (j t : Nat) (ht : t < 13) : pF P sn tn (j * 13 + t) = pcell (ptAt P j) (sn j) (tn j) t := by
  unfold pF
  rw [show (j * 13 + t) / 13 = j by omega, show (j * 13 + t) % 13 = t by omega]
def PM (w : World) (base : Nat) (A : Option Addr) (c : Nat) (P : List Pt) (sn : Nat → Nat → Nat) (tn : Nat → Nat) : Prop := w.ownsRow base 170 13 (.slice A P.length c) P.length ((List.range (P.length * 13)).map (pF P sn tn))
section
variable {w w2 : World} {base : Nat} {A : Option Addr} {c : Nat} {P : List Pt} {sn sn' : Nat → Nat → Nat} {tn : Nat → Nat}
theorem PM.kept (h : PM w base A c P sn tn) (hk : ∀ g, (Value.slice A P.length c).ownBlock = some g → w2.heap[g]? = w.heap[g]?) : PM w2 base A c P sn tn := by
  refine ⟨(show _ ∧ _ from h).1, ?_⟩
  rcases (show _ ∨ _ from h.2) with h2 | ⟨g, cap, cur, hv, hbg, hh, h3⟩
  · exact .inl h2
  · exact .inr ⟨g, cap, cur, hv, hbg, (hk g (by rw [hv]; rfl)).trans hh, h3⟩
theorem PM.below {B : Nat} (h : PM w base A c P sn tn) (hl : w.heap.size ≤ B) (hb : Below B w w2) : PM w2 base A c P sn tn := h.kept fun g hg => hb.block g (by have := (World.ownsRow.lt h g hg).2; omega)
theorem PM.form (h : PM w base A c P sn tn) (hn : 0 < P.length) : ∃ g, A = some ⟨g, 0, none⟩ ∧ base ≤ g ∧ g < w.heap.size := by
  obtain ⟨g, cap, hv, hbg, hlt⟩ := World.ownsRow.form h hn
  exact ⟨g, by injection hv, hbg, hlt⟩
theorem PM.cell {g : Nat} (h : PM w base (some ⟨g, 0, none⟩) c P sn tn) {j t : Nat} (hj : j < P.length) (ht : t < 13) : w.cell? ⟨g, j * 13 + t, none⟩ = some (pcell (ptAt P j) (sn j) (tn j) t) := by
  have := World.ownsRow.cellAt h (j * 13 + t) (by omega)
  rw [this]
  simp only [List.getElem?_map, List.getElem?_range (show j * 13 + t < P.length * 13 by omega), Option.map_some, pF_at P sn tn j t ht]
theorem PM.frozen {g : Nat} (h : PM w base (some ⟨g, 0, none⟩) c P sn tn) (t : Nat) : w.frozen? ⟨g, t, none⟩ = false := World.ownsRow.frozenAt h t
theorem PM.see {g : Nat} (h : PM w base (some ⟨g, 0, none⟩) c P sn tn) {j t v : Nat} (_hj : j < P.length) (ht : t < 8) : PM (w.setCell ⟨g, j * 13 + (4 + t), none⟩ (.int .i64 (v : Int))) base (some ⟨g, 0, none⟩) c P (fun i u => if i = j ∧ u = t then v else sn i u) tn := by
  have hst := (World.ownsRow.stored h (j * 13 + (4 + t)) (.int .i64 (v : Int))).1
  unfold PM
  rw [show (List.range (P.length * 13)).map (pF P (fun i u => if i = j ∧ u = t then v else sn i u) tn) = ((List.range (P.length * 13)).map (pF P sn tn)).set (j * 13 + (4 + t)) (.int .i64 (v : Int)) from ?_]
  · exact hst
  · apply List.ext_getElem?
    intro i
    by_cases hi : i < P.length * 13
    · by_cases e : i = j * 13 + (4 + t)
      · subst e
        rw [List.getElem?_set_self (by simp; omega)]
        simp only [List.getElem?_map, List.getElem?_range hi, Option.map_some, pF_at _ _ _ j (4 + t) (by omega)]
        unfold pcell
        rw [if_neg (by omega), if_neg (by omega), if_neg (by omega), if_neg (by omega), if_neg (by omega)]
        dsimp only
        rw [if_pos ⟨trivial, by omega⟩]
      · rw [List.getElem?_set_ne (fun e' => e e'.symm)]
        simp only [List.getElem?_map, List.getElem?_range hi, Option.map_some]
        congr 1
        unfold pF pcell
        by_cases h12 : i % 13 < 4 ∨ i % 13 = 12
        · rcases h12 with q | q
          · have : i % 13 = 0 ∨ i % 13 = 1 ∨ i % 13 = 2 ∨ i % 13 = 3 := by omega
            rcases this with q | q | q | q <;> simp [q]
          · simp [q]
        · rw [if_neg (by omega), if_neg (by omega), if_neg (by omega), if_neg (by omega), if_neg (by omega), if_neg (by omega), if_neg (by omega), if_neg (by omega), if_neg (by omega), if_neg (by omega)]
          dsimp only
          rw [if_neg]
          rintro ⟨q1, q2⟩
          omega
    · rw [List.getElem?_eq_none (by simp; omega), List.getElem?_eq_none (by simp; omega)]
theorem PM.seen {g : Nat} (h : PM w base (some ⟨g, 0, none⟩) c P sn tn) {j t : Nat} (hj : j < P.length) (ht : t < 8) : w.cell? ⟨g, j * 13 + 4 + t, none⟩ = some (.int .i64 ((sn j t : Nat) : Int)) := by
  rw [Nat.add_assoc, h.cell hj (show 4 + t < 13 by omega)]
  unfold pcell
  rw [if_neg (by omega), if_neg (by omega), if_neg (by omega), if_neg (by omega), if_neg (by omega), Nat.add_sub_cancel_left]
theorem PM.see' {g : Nat} (h : PM w base (some ⟨g, 0, none⟩) c P sn tn) {j t v : Nat} (hj : j < P.length) (ht : t < 8) : PM (w.setCell ⟨g, j * 13 + 4 + t, none⟩ (.int .i64 (v : Int))) base (some ⟨g, 0, none⟩) c P (fun i u => if i = j ∧ u = t then v else sn i u) tn := by
  rw [Nat.add_assoc]
  exact h.see hj ht
theorem PM.drewN (h : PM w base A c P sn tn) (m : Nat) : PM (w.drewN m) base A c P sn tn := h.kept fun _ _ => rfl
theorem PM.drew (h : PM w base A c P sn tn) : PM w.drew base A c P sn tn := h.kept fun _ _ => rfl
theorem PM.at0 {g : Nat} (h : PM w base (some ⟨g, 0, none⟩) c P sn tn) {j : Nat} (hj : j < P.length) : w.cell? ⟨g, j * 13, none⟩ = some (.int .i64 (ptAt P j).th) ∧ w.cell? ⟨g, j * 13 + 1, none⟩ = some (.int .i64 ((ptAt P j).fi : Int)) ∧ w.cell? ⟨g, j * 13 + 2, none⟩ = some (.int .i64 ((ptAt P j).la : Int)) ∧
    w.cell? ⟨g, j * 13 + 3, none⟩ = some (.int .i64 (ptAt P j).bk) ∧ w.cell? ⟨g, j * 13 + 12, none⟩ = some (.int .i64 ((tn j : Nat) : Int)) :=
  ⟨by simpa [pcell] using h.cell hj (show 0 < 13 by decide), by simpa [pcell] using h.cell hj (show 1 < 13 by decide), by simpa [pcell] using h.cell hj (show 2 < 13 by decide), by simpa [pcell] using h.cell hj (show 3 < 13 by decide), by simpa [pcell] using h.cell hj (show 12 < 13 by decide)⟩
theorem PM.congr (h : PM w base A c P sn tn) (he : ∀ i t, i < P.length → t < 8 → sn i t = sn' i t) : PM w base A c P sn' tn := by
  unfold PM
  rw [show (List.range (P.length * 13)).map (pF P sn' tn) = (List.range (P.length * 13)).map (pF P sn tn) from ?_]
  · exact h
  · refine List.map_congr_left fun i hi => ?_
    have hi' := List.mem_range.1 hi
    unfold pF pcell
    repeat' split
    all_goals first | rfl | skip
    rw [he (i / 13) (i % 13 - 4) (by omega) (by omega)]
end
def jnU (sn : Nat → Nat → Nat) (p q k : Nat) : Nat → Nat → Nat := fun i t => if i = p ∧ t < k then max (sn p t) (sn q t) else sn i t
theorem Kp.drew {a b : World} {lo hi : Nat} (h : Kp a b lo hi) : Kp a b.drew lo hi := ⟨h.os, h.tape, h.output, h.size, h.block⟩
theorem natmax (a b : Nat) : ((max a b : Nat) : Int) = max (a : Int) (b : Int) := by omega
theorem jnU_step (sn : Nat → Nat → Nat) (p q k : Nat) : (fun i u => if i = p ∧ u = k then max (sn p k) (sn q k) else jnU sn p q k i u) = jnU sn p q (k + 1) := by
  funext i u
  unfold jnU
  by_cases h : i = p ∧ u = k
  · obtain ⟨rfl, rfl⟩ := h
    rw [if_pos ⟨rfl, rfl⟩, if_pos ⟨rfl, by omega⟩]
  · rw [if_neg h]
    by_cases h2 : i = p ∧ u < k
    · rw [if_pos h2, if_pos ⟨h2.1, by omega⟩]
    · rw [if_neg h2, if_neg (by omega)]
set_option linter.unusedSimpArgs false in
set_option maxRecDepth 100000 in
set_option maxHeartbeats 6400000 in
theorem join_any (base g c : Nat) (P : List Pt) (sn : Nat → Nat → Nat) (tn : Nat → Nat) (p q : Nat) (w : World) (hI : PM w base (some ⟨g, 0, none⟩) c P sn tn) (hp : p < P.length) (hq : q < P.length) (hpq : p ≠ q) (hth : 0 ≤ (ptAt P q).th ∧ (ptAt P q).th < 8) (htn : tn q ≤ 1099511627776) :
    Calls Try.prog 108 #[.pointer (some ⟨g, p * 13, none⟩), .pointer (some ⟨g, q * 13, none⟩)] w fun e w' => e = .returned (.tuple #[]) ∧ PM w' base (some ⟨g, 0, none⟩) c P (jn (thP P) tn sn p q) tn ∧ Kp w w' g (g + 1) := by
  have HI := Lib.hid (hI.congr (sn' := jnU sn p q 0) (fun i t _ _ => by unfold jnU; rw [if_neg (by omega)]))
  have HKP := Lib.hid (Kp.refl w g (g + 1))
  obtain ⟨T, hT⟩ := Int.eq_ofNat_of_zero_le hth.1
  have HT := Lib.hid hT
  have hT8 : T < 8 := by omega
  have HTN := Lib.hid htn
  clear hI hT hth htn
  go_enter Try.func108, Try.ntmps108
  go_wp2
  go_loopw [5] (fun iv wr => ∃ k : Nat, k ≤ 8 ∧ iv = .int .i64 k ∧ Hid (PM wr base (some ⟨g, 0, none⟩) c P (jnU sn p q k) tn) ∧ Hid (Kp w wr g (g + 1))) (fun iv _ => 8 - (intOf iv).toNat)
  case atStart => exact ⟨0, by omega, rfl, HI, HKP⟩
  case round =>
    clear HI HKP
    obtain ⟨k, hk, rfl, HI1, HKP1⟩ := hrel
    by_cases hk8 : k < 8
    · have hcp := HI1.out.seen hp hk8
      have hcq := HI1.out.seen hq hk8
      have hf := HI1.out.frozen (p * 13 + 4 + k)
      have e1 : jnU sn p q k p k = sn p k := by unfold jnU; rw [if_neg (by omega)]
      have e2 : jnU sn p q k q k = sn q k := by unfold jnU; rw [if_neg (by omega)]
      rw [e1] at hcp
      rw [e2] at hcq
      have hs := (HI1.out.see' (v := max (sn p k) (sn q k)) hp hk8).drew
      rw [jnU_step, natmax] at hs
      have HS := Lib.hid hs
      have HKP2 := Lib.hid (HKP1.out.set ⟨g, p * 13 + 4 + k, none⟩ (.int .i64 (max ((sn p k : Nat) : Int) ((sn q k : Nat) : Int))) (Nat.le_refl _) (Nat.lt_succ_self _)).drew
      have i1 : (0 : Int) ≤ (k : Int) := by omega
      have i2 : (k : Int) < 8 := by omega
      clear e1 e2 hs HI1 HKP1
      go_wp2
      go_region
      go_wp2
      go_roundw
      case rel => exact ⟨k + 1, hk8, by go_num, HS, HKP2⟩
      case measure => simp [intOf]; omega
    · obtain rfl : k = 8 := by omega
      have hcp := HI1.out.seen hp hT8
      obtain ⟨q0, _, _, _, q12⟩ := HI1.out.at0 hq
      have hf := HI1.out.frozen (p * 13 + 4 + T)
      have e1 : jnU sn p q 8 p T = max (sn p T) (sn q T) := by unfold jnU; rw [if_pos ⟨rfl, hT8⟩]
      rw [e1] at hcp
      rw [HT.out] at q0
      have hs := (HI1.out.see' (v := max (max (sn p T) (sn q T)) (tn q + 1)) hp hT8).drew
      rw [natmax] at hs
      have hfin : ∀ i t, i < P.length → t < 8 → (if i = p ∧ t = T then max (max (sn p T) (sn q T)) (tn q + 1) else jnU sn p q 8 i t) = jn (thP P) tn sn p q i t := by
        intro i t _ ht
        have hthq : thP P q = T := by unfold thP; rw [HT.out]; simp
        unfold jn jnU
        rw [hthq]
        by_cases e : i = p
        · subst e
          rw [if_pos rfl]
          by_cases e2 : t = T
          · subst e2
            rw [if_pos ⟨rfl, rfl⟩, if_pos rfl]
          · rw [if_neg (fun h => e2 h.2), if_pos ⟨rfl, ht⟩, if_neg e2]
        · rw [if_neg (fun h => e h.1), if_neg (fun h => e h.1), if_neg e]
      have hs2 := hs.congr hfin
      have hkp := (HKP1.out.set ⟨g, p * 13 + 4 + T, none⟩ (.int .i64 (max ((max (sn p T) (sn q T) : Nat) : Int) ((tn q + 1 : Nat) : Int))) (Nat.le_refl _) (Nat.lt_succ_self _)).drew
      obtain ⟨mx, hmx⟩ : ∃ mx, mx = max (sn p T) (sn q T) := ⟨_, rfl⟩
      obtain ⟨tq, htq⟩ : ∃ tq, tq = tn q := ⟨_, rfl⟩
      have htl := HTN.out
      rw [← hmx] at hcp hs2 hkp
      rw [← htq] at q12 hs2 hkp htl
      have hc1 : ((tq + 1 : Nat) : Int) = (tq : Int) + 1 := by omega
      rw [hc1] at hs2 hkp
      have HS := Lib.hid hs2
      have HKP2 := Lib.hid hkp
      have i1 : (0 : Int) ≤ (T : Int) := by omega
      have i2 : (T : Int) < 8 := by omega
      clear e1 hs hs2 hkp hfin hmx htq hc1 HI1 HKP1
      go_wp2
      go_region
      go_end0
      exact ⟨rfl, HS.out, HKP2.out⟩
end Go.Proofs.Ytjifpjfinffamaa
end
section
namespace Go.Proofs.Ytjifpjfinffamaa
section
variable {l : List Ev} {bl : List Bl} {lk : List Nat} {s : List Nat}
theorem take_step {s : List Nat} {k p : Nat} (h : s[k]? = some p) : s.take (k + 1) = s.take k ++ [p] := by
  rw [List.take_add_one, h]
  rfl
theorem ownP_snoc (P : List Pt) (s : List Nat) (p t : Nat) : ownP P (s ++ [p]) t = if t = thP P p then ownP P s t ++ [p] else ownP P s t := by
  unfold ownP
  rw [List.filter_append]
  by_cases h : t = thP P p
  · rw [if_pos h, List.filter_cons_of_pos (by simp [h])]
    rfl
  · rw [if_neg h, List.filter_cons_of_neg (by simpa using fun e => h e.symm)]
    simp
theorem ownP_len_le (P : List Pt) (s : List Nat) (t : Nat) : (ownP P s t).length ≤ s.length := List.length_filter_le _ _
theorem Srt.tn_at (h : Srt l bl s) {k p : Nat} (hk : s[k]? = some p) : tnP (pts l bl) s p = (ownP (pts l bl) (s.take k) (thP (pts l bl) p)).length := by
  have hs : s = s.take k ++ p :: s.drop (k + 1) := by
    obtain ⟨h1, h2⟩ := List.getElem?_eq_some_iff.1 hk
    rw [← h2, List.getElem_cons_drop, List.take_append_drop]
  have hd : (ownP (pts l bl) s (thP (pts l bl) p))[(ownP (pts l bl) (s.take k) (thP (pts l bl) p)).length]? = some p := by
    have : ownP (pts l bl) s (thP (pts l bl) p) = ownP (pts l bl) (s.take k) (thP (pts l bl) p) ++ p :: ownP (pts l bl) (s.drop (k + 1)) (thP (pts l bl) p) := by
      conv => lhs; rw [hs]
      unfold ownP
      rw [List.filter_append, List.filter_cons_of_pos (by simp)]
    rw [this, List.getElem?_append_right (Nat.le_refl _)]
    simp
  exact (h.own_of hd).2.2
theorem Srt.nd (h : Srt l bl s) {i j p : Nat} (hi : s[i]? = some p) (hj : s[j]? = some p) : i = j := pw_inj h.pw hi hj
def tnK (P : List Pt) (s : List Nat) (k q : Nat) : Nat := if q ∈ s.take k then tnP P s q else 0
theorem tnK_zero (P : List Pt) (s : List Nat) : tnK P s 0 = fun _ => 0 := by funext q; simp [tnK]
theorem Srt.tnK_step (h : Srt l bl s) {k p : Nat} (hk : s[k]? = some p) (q : Nat) : (if q = p then (ownP (pts l bl) (s.take k) (thP (pts l bl) p)).length else tnK (pts l bl) s k q) = tnK (pts l bl) s (k + 1) q := by
  unfold tnK
  rw [take_step hk]
  by_cases e : q = p
  · subst e
    rw [if_pos rfl, if_pos (by simp), h.tn_at hk]
  · rw [if_neg e]
    by_cases hm : q ∈ s.take k
    · rw [if_pos hm, if_pos (by simp [hm])]
    · rw [if_neg hm, if_neg (by simp [hm, e])]
theorem Srt.tnK_end (h : Srt l bl s) {q : Nat} (hq : q < (pts l bl).length) : tnK (pts l bl) s s.length q = tnP (pts l bl) s q := by
  unfold tnK
  rw [List.take_length, if_pos ((h.mem q).2 hq)]
def ofL (l : List Ev) (P : List Pt) (s : List Nat) : List Int := (List.range l.length).map (ofS l P s)
def ofU (l : List Ev) (P : List Pt) (s : List Nat) (p j : Nat) : List Int := (List.range l.length).map fun i => if i < j ∧ HasE l P p i then (p : Int) else ofS l P s i
theorem ofL_len (l : List Ev) (P : List Pt) (s : List Nat) : (ofL l P s).length = l.length := by simp [ofL]
theorem ofU_len (l : List Ev) (P : List Pt) (s : List Nat) (p j : Nat) : (ofU l P s p j).length = l.length := by simp [ofU]
theorem ofU_start (l : List Ev) (P : List Pt) (s : List Nat) (p : Nat) : ofU l P s p (ptAt P p).fi = ofL l P s := by
  unfold ofU ofL
  refine List.map_congr_left fun i _ => ?_
  rw [if_neg]
  rintro ⟨h1, h2, _⟩
  omega
theorem ofU_hit {l : List Ev} {P : List Pt} {s : List Nat} {p j : Nat} (h : HasE l P p j) : (ofU l P s p j).set j (p : Int) = ofU l P s p (j + 1) := by
  apply List.ext_getElem?
  intro i
  by_cases hi : i < l.length
  · rw [List.getElem?_set]
    by_cases e : j = i
    · subst e
      simp [ofU, hi, h]
    · rw [if_neg e]
      simp only [ofU, List.getElem?_map, List.getElem?_range hi, Option.map_some]
      congr 1
      by_cases h2 : i < j ∧ HasE l P p i
      · rw [if_pos h2, if_pos ⟨by omega, h2.2⟩]
      · rw [if_neg h2, if_neg (fun q => h2 ⟨by omega, q.2⟩)]
  · rw [List.getElem?_eq_none (by simp [ofU]; omega), List.getElem?_eq_none (by simp [ofU]; omega)]
theorem ofU_miss {l : List Ev} {P : List Pt} {s : List Nat} {p j : Nat} (h : ¬ HasE l P p j) : ofU l P s p j = ofU l P s p (j + 1) := by
  unfold ofU
  refine List.map_congr_left fun i _ => ?_
  by_cases h2 : i < j ∧ HasE l P p i
  · rw [if_pos h2, if_pos ⟨by omega, h2.2⟩]
  · rw [if_neg h2, if_neg]
    rintro ⟨q1, q2⟩
    by_cases e : i = j
    · subst e; exact h q2
    · exact h2 ⟨by omega, q2⟩
theorem ofU_end (hF : BlkF l bl lk) (hs : ∀ q ∈ s, q < (pts l bl).length) {p : Nat} (hp : p < (pts l bl).length) : ofU l (pts l bl) s p ((ptAt (pts l bl) p).la + 1) = ofL l (pts l bl) (s ++ [p]) := by
  unfold ofU ofL
  refine List.map_congr_left fun i _ => ?_
  have hs2 : ∀ q ∈ s ++ [p], q < (pts l bl).length := fun q hq => by
    rcases List.mem_append.1 hq with h | h
    · exact hs q h
    · obtain rfl := List.mem_singleton.1 h
      exact hp
  by_cases h : HasE l (pts l bl) p i
  · rw [if_pos ⟨by have := h.2.1; omega, h⟩, ofS_some hF hs2 (by simp) h]
  · rw [if_neg (fun q => h q.2)]
    by_cases hx : ∃ q ∈ s, HasE l (pts l bl) q i
    · obtain ⟨q, hq, hk⟩ := hx
      rw [ofS_some hF hs hq hk, ofS_some hF hs2 (List.mem_append_left _ hq) hk]
    · rw [ofS_none (fun q hq hk => hx ⟨q, hq, hk⟩), ofS_none]
      intro q hq
      rcases List.mem_append.1 hq with h1 | h1
      · exact fun hk => hx ⟨q, h1, hk⟩
      · obtain rfl := List.mem_singleton.1 h1
        exact h
theorem ofL_nil (l : List Ev) (P : List Pt) : ofL l P [] = List.replicate l.length (-1) := by
  unfold ofL ofS
  apply List.ext_getElem?
  intro i
  by_cases h : i < l.length
  · simp [h]
  · rw [List.getElem?_eq_none (by simp; omega), List.getElem?_eq_none (by simp; omega)]
end
end Go.Proofs.Ytjifpjfinffamaa
end
section
namespace Go.Proofs.Ytjifpjfinffamaa
open Go.RowKit
structure Kq (a b : World) (g d : Nat) : Prop where
  os : b.os = a.os
  tape : b.tape = a.tape
  output : b.output = a.output
  size : b.heap.size = a.heap.size
  block : ∀ k, k ≠ g → k ≠ d → b.heap[k]? = a.heap[k]?
theorem Kq.refl (a : World) (g d : Nat) : Kq a a g d := ⟨rfl, rfl, rfl, rfl, fun _ _ _ => rfl⟩
theorem Kq.trans {a b c : World} {g d : Nat} (h : Kq a b g d) (h2 : Kq b c g d) : Kq a c g d := ⟨h2.os.trans h.os, h2.tape.trans h.tape, h2.output.trans h.output, h2.size.trans h.size, fun k h3 h4 => (h2.block k h3 h4).trans (h.block k h3 h4)⟩
theorem Kp.trans {a b c : World} {lo hi : Nat} (h : Kp a b lo hi) (h2 : Kp b c lo hi) : Kp a c lo hi := ⟨h2.os.trans h.os, h2.tape.trans h.tape, h2.output.trans h.output, h2.size.trans h.size, fun k hk => (h2.block k hk).trans (h.block k hk)⟩
theorem Kp.kq {a b : World} {g d : Nat} (h : Kp a b g (g + 1)) : Kq a b g d := ⟨h.os, h.tape, h.output, h.size, fun k h1 _ => h.block k (by rcases Nat.lt_or_gt_of_ne h1 with q | q; exact .inl q; exact .inr q)⟩
theorem Kq.setD {a b : World} {g d : Nat} (h : Kq a b g d) (t : Nat) (v : Value) : Kq a (b.setCell ⟨d, t, none⟩ v) g d := ⟨h.os, h.tape, h.output, by simpa using h.size, fun k h1 h2 => (Below.heap_setCell b ⟨d, t, none⟩ v k h2).trans (h.block k h1 h2)⟩
theorem Kq.drewN {a b : World} {g d : Nat} (h : Kq a b g d) (m : Nat) : Kq a (b.drewN m) g d := ⟨h.os, h.tape, h.output, h.size, h.block⟩
structure OwR (w : World) (gO g d : Nat) (own : Nat → List Nat) : Prop where
  ne : gO ≠ g ∧ gO ≠ d
  at_ : ∀ t, t < 8 → ∃ A c, w.cell? ⟨gO, t, none⟩ = some (.slice A (own t).length c) ∧ (0 < (own t).length → ∃ k, A = some ⟨k, 0, none⟩ ∧ k ≠ g ∧ k ≠ d ∧ ∀ i p, (own t)[i]? = some p → w.cell? ⟨k, i, none⟩ = some (.int .i64 ((p : Nat) : Int)))
theorem OwR.kq {w w2 : World} {gO g d : Nat} {own : Nat → List Nat} (h : OwR w gO g d own) (hk : Kq w w2 g d) : OwR w2 gO g d own := by
  refine ⟨h.ne, fun t ht => ?_⟩
  obtain ⟨A, c, h1, h2⟩ := h.at_ t ht
  refine ⟨A, c, (World.cell?_of_block (w := w) (hk.block gO h.ne.1 h.ne.2)).trans h1, fun hp => ?_⟩
  obtain ⟨k, e, n1, n2, h3⟩ := h2 hp
  exact ⟨k, e, n1, n2, fun i p hi => (World.cell?_of_block (w := w) (hk.block k n1 n2)).trans (h3 i p hi)⟩
structure UpI (w : World) (base g c d gO gV gW : Nat) (P : List Pt) (tn : Nat → Nat) (own : Nat → List Nat) (st : Ck) : Prop where
  pm : PM w base (some ⟨g, 0, none⟩) c P st.sn tn
  dn : Blk w base 168 d 8 (fun t => .int .i64 ((st.dn t : Nat) : Int))
  ow : OwR w gO g d own
  v : w.cell? ⟨gV, 0, none⟩ = some (.pointer (some ⟨gW, 0, none⟩))
  p : w.cell? ⟨gW, 0, none⟩ = some (.slice (some ⟨g, 0, none⟩) P.length c)
  ne : g ≠ d ∧ gV ≠ g ∧ gV ≠ d ∧ gW ≠ g ∧ gW ≠ d
section
variable {w w2 : World} {base g c d gO gV gW : Nat} {P : List Pt} {tn : Nat → Nat} {own : Nat → List Nat} {st : Ck}
theorem UpI.drewN (h : UpI w base g c d gO gV gW P tn own st) (m : Nat) : UpI (w.drewN m) base g c d gO gV gW P tn own st :=
  ⟨h.pm.drewN m, h.dn, h.ow.kq ((Kq.refl _ _ _).drewN m), h.v, h.p, h.ne⟩
theorem UpI.joined (h : UpI w base g c d gO gV gW P tn own st) {sn' : Nat → Nat → Nat} (hp : PM w2 base (some ⟨g, 0, none⟩) c P sn' tn) (hk : Kp w w2 g (g + 1)) : UpI w2 base g c d gO gV gW P tn own ⟨sn', st.dn⟩ := by
  have hq : Kq w w2 g d := hk.kq (d := d)
  exact ⟨hp, h.dn.kept (hk.block d (by rcases Nat.lt_or_gt_of_ne h.ne.1 with q | q; exact .inr q; exact .inl q)), h.ow.kq hq, (World.cell?_of_block (w := w) (hq.block gV h.ne.2.1 h.ne.2.2.1)).trans h.v, (World.cell?_of_block (w := w) (hq.block gW h.ne.2.2.2.1 h.ne.2.2.2.2)).trans h.p, h.ne⟩
theorem UpI.turn (h : UpI w base g c d gO gV gW P tn own st) (t v : Nat) : UpI (w.setCell ⟨d, t, none⟩ (.int .i64 (v : Int))) base g c d gO gV gW P tn own ⟨st.sn, fun x => if x = t then v else st.dn x⟩ := by
  have hq : Kq w (w.setCell ⟨d, t, none⟩ (.int .i64 (v : Int))) g d := (Kq.refl _ _ _).setD t _
  refine ⟨h.pm.kept fun k hk => ?_, (h.dn.set t (.int .i64 (v : Int))).congr fun j _ => ?_, h.ow.kq hq, (World.cell?_of_block (w := w) (hq.block gV h.ne.2.1 h.ne.2.2.1)).trans h.v, (World.cell?_of_block (w := w) (hq.block gW h.ne.2.2.2.1 h.ne.2.2.2.2)).trans h.p, h.ne⟩
  · have e : g = k := Option.some.inj hk
    subst e
    exact Below.heap_setCell w ⟨d, t, none⟩ _ g h.ne.1
  · dsimp only
    split <;> rfl
end
structure CalB (P : List Pt) (tn : Nat → Nat) (own : Nat → List Nat) : Prop where
  thr : ∀ p, p < P.length → 0 ≤ (ptAt P p).th ∧ (ptAt P p).th < 8
  lt : ∀ (t i p : Nat), (own t)[i]? = some p → p < P.length
  nd : ∀ (t i j p : Nat), (own t)[i]? = some p → (own t)[j]? = some p → i = j
  tn : ∀ p, tn p ≤ 1099511627776
  len : ∀ t, (own t).length ≤ 1099511627776
theorem upN_dn (th tn : Nat → Nat) (own : Nat → List Nat) (st : Ck) (t : Nat) : ∀ k, (upN th tn own st t k).dn t = st.dn t + k
  | 0 => rfl
  | k + 1 => by
    show (up1 th tn own (upN th tn own st t k) t).dn t = _
    unfold up1
    dsimp only
    rw [if_pos rfl, upN_dn th tn own st t k]
    omega
set_option linter.unusedSimpArgs false in
set_option maxRecDepth 100000 in
set_option maxHeartbeats 6400000 in
theorem up_any (base g c d gO gV gW : Nat) (P : List Pt) (tn : Nat → Nat) (own : Nat → List Nat) (st : Ck) (t turn : Nat) (w : World) (hI : UpI w base g c d gO gV gW P tn own st) (hB : CalB P tn own) (ht : t < 8) (hd : st.dn t ≤ turn) (hturn : turn ≤ (own t).length) :
    Calls Try.prog 107 #[.int .i64 (t : Int), .int .i64 (turn : Int), .pointer (some ⟨d, 0, none⟩), .pointer (some ⟨gV, 0, none⟩), .pointer (some ⟨gO, 0, none⟩)] w fun e w' => e = .returned (.tuple #[]) ∧ UpI w' base g c d gO gV gW P tn own (upN (thP P) tn own st t (turn - st.dn t)) ∧ Kq w w' g d := by
  have HI := Lib.hid hI
  have HB := Lib.hid hB
  have hlen := hB.len t
  have i1 : (0 : Int) ≤ (t : Int) := by omega
  have i2 : (t : Int) < 8 := by omega
  have HK0 := Lib.hid (Kq.refl w g d)
  clear hI hB
  go_enter Try.func107, Try.ntmps107
  go_wp2
  go_loopg [] (turn - st.dn t) (fun left wr => ∃ k : Nat, st.dn t + k + left = turn ∧ Hid (UpI wr base g c d gO gV gW P tn own (upN (thP P) tn own st t k)) ∧ Hid (Kq w wr g d))
  case atStart => exact ⟨0, by omega, HI, HK0⟩
  case round =>
    clear HI HK0
    obtain ⟨k, hk, HI1, HK1⟩ := hrel
    have hdn := HI1.out.dn.cell (j := t) ht
    rw [upN_dn] at hdn
    have HLE := Lib.hid (show st.dn t + k ≤ (own t).length by omega)
    have HDN := Lib.hid (upN_dn (thP P) tn own st t k)
    have HK := Lib.hid (show ∀ D, st.dn t + k = D → D = turn → k = turn - st.dn t by intro D _ _; omega)
    generalize hD : st.dn t + k = D at hk hdn HLE HDN
    have HDk := Lib.hid hD
    clear hD
    have i4 : (0 : Int) ≤ (D : Int) := by omega
    by_cases hg0 : gk = 0
    · have i3 : ¬ ((D : Int) < (turn : Int)) := by omega
      have e : D = turn := by omega
      have HE := Lib.hid e
      clear hg0 hk e
      go_wp2
      go_end0
      have e : k = turn - st.dn t := HK.out _ HDk.out HE.out
      subst e
      exact ⟨rfl, HI1.out, HK1.out⟩
    · have hlt : D < (own t).length := by omega
      have i3 : ((D : Int) < (turn : Int)) := by omega
      have i5 : (D : Int) < (((own t).length : Nat) : Int) := by omega
      have HGK := Lib.hid (show D + 1 + (gk - 1) = turn ∧ gk - 1 < gk by omega)
      clear hg0 hk
      obtain ⟨A, c2, ho1, ho2⟩ := HI1.out.ow.at_ t ht
      obtain ⟨b, rfl, nb1, nb2, ho3⟩ := ho2 (by omega)
      obtain ⟨p, hp⟩ : ∃ p, (own t)[D]? = some p := ⟨_, List.getElem?_eq_getElem hlt⟩
      have hp1 := ho3 _ _ hp
      have hpN := HB.out.lt _ _ _ hp
      have hV := HI1.out.v
      have hW := HI1.out.p
      have HO3 := Lib.hid ho3
      have HP := Lib.hid hp
      have HNB := Lib.hid (And.intro nb1 nb2)
      clear ho2 ho3 hp nb1 nb2
      have i6 : (0 : Int) ≤ (p : Int) := Int.natCast_nonneg p
      have i7 : (p : Int) < ((P.length : Nat) : Int) := Int.ofNat_lt.2 hpN
      by_cases hz : 0 < D
      · obtain ⟨q, hq⟩ : ∃ q, (own t)[D - 1]? = some q := ⟨_, List.getElem?_eq_getElem (by omega)⟩
        have hq1 := HO3.out _ _ hq
        have hqN := HB.out.lt _ _ _ hq
        have hpq : p ≠ q := by
          intro e
          subst e
          have := HB.out.nd _ _ _ _ HP.out hq
          omega
        have hqt := HB.out.thr q hqN
        have hqn := HB.out.tn q
        have HQ := Lib.hid hq
        have HPQ := Lib.hid hpq
        have HQT := Lib.hid (And.intro hqt hqn)
        have hz1 : (0 : Int) < (D : Int) := by omega
        have hw : IntKind.i64.wrap ((D : Int) - 1) = ((D - 1 : Nat) : Int) := by rw [IntKind.wrap_i64]; omega
        have HE := Lib.hid (show D - 1 = D - 1 from rfl)
        generalize hEd : D - 1 = E at hq hq1 hw
        have HED := Lib.hid hEd
        clear hEd HE
        have j5 : (0 : Int) ≤ (E : Int) := Int.natCast_nonneg E
        have j6 : (E : Int) < (((own t).length : Nat) : Int) := Int.ofNat_lt.2 (List.getElem?_eq_some_iff.1 hq).1
        have i8 : (0 : Int) ≤ (q : Int) := Int.natCast_nonneg q
        have i9 : (q : Int) < ((P.length : Nat) : Int) := Int.ofNat_lt.2 hqN
        clear hq hpq hqt hqn
        go_wp2
        go_quiet (fail)
        go_wp2
        have HI2 := Lib.hid (HI1.out.drewN nq)
        have HK2 := Lib.hid (HK1.out.drewN nq)
        have g1 : (wr.drewN nq).cell? { block := b, off := E } = some (Value.int IntKind.i64 ↑q) := hq1
        have g2 : (wr.drewN nq).cell? { block := d, off := t } = some (Value.int IntKind.i64 ↑D) ∧ (wr.drewN nq).frozen? { block := d, off := t } = false := hdn
        have g3 : (wr.drewN nq).cell? { block := gO, off := t } = some (Value.slice (some { block := b, off := 0 }) (own t).length c2) := ho1
        have g4 : (wr.drewN nq).cell? { block := gV, off := 0 } = some (Value.pointer (some { block := gW, off := 0 })) := hV
        have g5 : (wr.drewN nq).cell? { block := gW, off := 0 } = some (Value.slice (some { block := g, off := 0 }) P.length c) := hW
        clear hq1 hdn ho1 hV hW hp1 HI1 HK1 HO3 HNB
        generalize wr.drewN nq = w4 at *
        go_still_tail 15, (by kernel_rfl)
        change wpList _ _ _ _ _ w4.drew
        go_wp2_with (go_at_call 108; refine halt_ ?_)
        refine Halt_.go ?_
        refine (join_any base g c P _ tn p q w4.drew HI2.out.pm.drew hpN hqN HPQ.out HQT.out.1 HQT.out.2).mono ?_
        rintro e' w5 ⟨rfl, hpm5, hkp5⟩
        have hkp6 : Kp w4 w5 g (g + 1) := ((Kp.refl w4 g (g + 1)).drew).trans hkp5
        have HI5 := Lib.hid (HI2.out.joined hpm5 hkp6)
        have HK5 := Lib.hid (HK2.out.trans (hkp6.kq (d := d)))
        have hdn := HI5.out.dn.cell (j := t) ht
        rw [show (⟨jn (thP P) tn (upN (thP P) tn own st t k).sn p q, (upN (thP P) tn own st t k).dn⟩ : Ck).dn t = D from HDN.out] at hdn
        clear hpm5 hkp5 hkp6 HI2 HK2 g1 g2 g3 g4 g5
        go_wp2
        go_roundg (gk - 1)
        case rel =>
          refine ⟨k + 1, by have := HGK.out.1; have := HDk.out; omega, Lib.hid ?_, Lib.hid ?_⟩
          · have h2 := HI5.out.turn t (D + 1)
            have e : upN (thP P) tn own st t (k + 1) = ⟨jn (thP P) tn (upN (thP P) tn own st t k).sn p q, fun x => if x = t then D + 1 else (upN (thP P) tn own st t k).dn x⟩ := by
              show up1 _ _ _ _ _ = _
              unfold up1
              rw [HDN.out, if_pos hz]
              simp only [List.getD, HP.out, Option.getD_some]
              rw [HQ.out]
              rfl
            rw [e]
            exact h2
          · exact HK5.out.setD t _
        case measure => exact HGK.out.2
      · have hz1 : ¬ (0 : Int) < (D : Int) := by omega
        go_wp2
        go_quiet (fail)
        go_wp2
        go_roundg (gk - 1)
        case rel =>
          refine ⟨k + 1, by have := HGK.out.1; have := HDk.out; omega, Lib.hid ?_, Lib.hid ?_⟩
          · have h2 := (HI1.out.drewN nq).turn t (D + 1)
            have e : upN (thP P) tn own st t (k + 1) = ⟨(upN (thP P) tn own st t k).sn, fun x => if x = t then D + 1 else (upN (thP P) tn own st t k).dn x⟩ := by
              show up1 _ _ _ _ _ = _
              unfold up1
              rw [HDN.out, if_neg hz]
            rw [e]
            exact h2
          · exact (HK1.out.drewN nq).setD t _
        case measure => exact HGK.out.2
end Go.Proofs.Ytjifpjfinffamaa
end
section
namespace Go.Proofs.Ytjifpjfinffamaa
open Go.RowKit Go.Maps
structure Ex (a b : World) (S : Nat → Prop) : Prop where
  os : b.os = a.os
  tape : b.tape = a.tape
  output : b.output = a.output
  size : a.heap.size ≤ b.heap.size
  block : ∀ k, k < a.heap.size → ¬ S k → b.heap[k]? = a.heap[k]?
section
variable {a b c : World} {S S' : Nat → Prop}
theorem Ex.refl (a : World) (S : Nat → Prop) : Ex a a S := ⟨rfl, rfl, rfl, Nat.le_refl _, fun _ _ _ => rfl⟩
theorem Ex.grow (h : Ex a b S) (hs : ∀ k, S k → S' k) : Ex a b S' := ⟨h.os, h.tape, h.output, h.size, fun k h1 h2 => h.block k h1 fun h3 => h2 (hs k h3)⟩
theorem Ex.trans (h : Ex a b S) (h2 : Ex b c S') (hs : ∀ k, k < a.heap.size → S' k → S k) : Ex a c S := ⟨h2.os.trans h.os, h2.tape.trans h.tape, h2.output.trans h.output, Nat.le_trans h.size h2.size, fun k h3 h4 => (h2.block k (by have := h.size; omega) fun h5 => h4 (hs k h3 h5)).trans (h.block k h3 h4)⟩
theorem Ex.set (h : Ex a b S) (p : Addr) (v : Value) (hp : p.block < a.heap.size → S p.block) : Ex a (b.setCell p v) S :=
  ⟨h.os, h.tape, h.output, by simpa using h.size, fun k h1 h2 => (Below.heap_setCell b p v k (fun e => h2 (e ▸ hp (e ▸ h1)))).trans (h.block k h1 h2)⟩
theorem Ex.drew (h : Ex a b S) : Ex a b.drew S := ⟨h.os, h.tape, h.output, h.size, h.block⟩
theorem Ex.drewN (h : Ex a b S) (n : Nat) : Ex a (b.drewN n) S := ⟨h.os, h.tape, h.output, h.size, h.block⟩
theorem Ex.alloc (h : Ex a b S) (o : Obj) : Ex a (b.alloc o) S :=
  ⟨h.os, h.tape, h.output, by have := h.size; simp; omega, fun k h1 h2 => ((World.grownBy_alloc b o none).block k (by have := h.size; omega) (by simp)).trans (h.block k h1 h2)⟩
theorem Ex.grown {r : Option Nat} (h : Ex a b S) (hg : b.grownBy c r) (hr : ∀ k, r = some k → k < a.heap.size → S k) : Ex a c S :=
  ⟨hg.os.trans h.os, hg.tape.trans h.tape, hg.output.trans h.output, Nat.le_trans h.size hg.size, fun k h1 h2 => (hg.block k (by have := h.size; omega) (fun e => h2 (hr k e.symm h1))).trans (h.block k h1 h2)⟩
theorem Below.ex (h : Below a.heap.size a b) : Ex a b S := ⟨h.os, h.tape, h.output, h.size, fun k h1 _ => h.block k h1⟩
theorem Kq.ex {g d : Nat} (h : Kq a b g d) : Ex a b (fun k => k = g ∨ k = d) := ⟨h.os, h.tape, h.output, by have := h.size; omega, fun k _ h2 => h.block k (fun e => h2 (.inl e)) (fun e => h2 (.inr e))⟩
theorem Ex.cell (h : Ex a b S) {p : Addr} (hp : p.block < a.heap.size) (hs : ¬ S p.block) : b.cell? p = a.cell? p := World.cell?_of_block (h.block _ hp hs)
theorem Ex.below {w : World} {B : Nat} (h : Ex a b S) (hb : Below B w a) (hB : ∀ k, k < B → ¬ S k) (hs : B ≤ a.heap.size) : Below B w b :=
  ⟨h.os.trans hb.os, h.tape.trans hb.tape, h.output.trans hb.output, Nat.le_trans hb.size h.size, fun k hk => (h.block k (by omega) (hB k hk)).trans (hb.block k hk)⟩
theorem OwnI.ex {base : Nat} {A : Option Addr} {cc : Nat} {xs : List Int} (h : OwnI a base A cc xs) (he : Ex a b S) (hn : ∀ k, (Value.slice A xs.length cc).ownBlock = some k → ¬ S k) : OwnI b base A cc xs := by
  refine ⟨(show _ ∧ _ from h).1, ?_⟩
  rcases (show _ ∨ _ from h.2) with h2 | ⟨g, cap, cur, hv, hbg, hh, h3⟩
  · exact .inl h2
  · exact .inr ⟨g, cap, cur, hv, hbg, (he.block g (Array.getElem?_eq_some_iff.1 hh).1 (hn g (by rw [hv]; rfl))).trans hh, h3⟩
end
def webF (Ap : Option Addr) (cp N : Nat) (Af : Option Addr) (cf n : Nat) (vb : Value) (i : Nat) : Value := if i = 0 then .slice Ap N cp else if i = 1 then .slice Af n cf else vb
abbrev sn0 : Nat → Nat → Nat := fun _ _ => 0
abbrev tn0 : Nat → Nat := fun _ => 0
def ptCells (x : Pt) : List Value := [.int .i64 x.th, .int .i64 (x.fi : Int), .int .i64 (x.la : Int), .int .i64 x.bk, .int .i64 0, .int .i64 0, .int .i64 0, .int .i64 0, .int .i64 0, .int .i64 0, .int .i64 0, .int .i64 0, .int .i64 0]
theorem ptCells_at (x : Pt) {t : Nat} (ht : t < 13) : (ptCells x)[t]? = some (pcell x (fun _ => 0) 0 t) := by
  have : t = 0 ∨ t = 1 ∨ t = 2 ∨ t = 3 ∨ t = 4 ∨ t = 5 ∨ t = 6 ∨ t = 7 ∨ t = 8 ∨ t = 9 ∨ t = 10 ∨ t = 11 ∨ t = 12 := by omega
  rcases this with rfl | rfl | rfl | rfl | rfl | rfl | rfl | rfl | rfl | rfl | rfl | rfl | rfl <;> simp [ptCells, pcell]
theorem ptAt_old {P : List Pt} {j : Nat} (h : j < P.length) (x : Pt) : ptAt (P ++ [x]) j = ptAt P j := by simp [ptAt, List.getD, List.getElem?_append_left h]
theorem ptAt_new (P : List Pt) (x : Pt) : ptAt (P ++ [x]) P.length = x := by simp [ptAt, List.getD]
theorem pF_app (P : List Pt) (x : Pt) : (List.range ((P.length + 1) * 13)).map (pF (P ++ [x]) sn0 tn0) = (List.range (P.length * 13)).map (pF P sn0 tn0) ++ ptCells x := by
  apply List.ext_getElem?
  intro i
  have hl : ((List.range (P.length * 13)).map (pF P sn0 tn0)).length = P.length * 13 := by simp
  by_cases h : i < P.length * 13
  · rw [List.getElem?_append_left (by rw [hl]; exact h)]
    simp only [List.getElem?_map, List.getElem?_range h, List.getElem?_range (show i < (P.length + 1) * 13 by omega), Option.map_some]
    unfold pF
    rw [ptAt_old (by omega)]
  · rw [List.getElem?_append_right (by rw [hl]; omega), hl]
    by_cases h2 : i < (P.length + 1) * 13
    · obtain ⟨t, rfl⟩ : ∃ t, i = P.length * 13 + t := ⟨i - P.length * 13, by omega⟩
      rw [Nat.add_sub_cancel_left, ptCells_at x (by omega)]
      simp only [List.getElem?_map, List.getElem?_range h2, Option.map_some, pF_at _ _ _ P.length t (by omega), ptAt_new]
    · rw [List.getElem?_eq_none (by simp; omega), List.getElem?_eq_none (by simp [ptCells]; omega)]
theorem PM.push {w2 : World} {base g cap : Nat} {P : List Pt} (x : Pt) (h : w2.ownsRow base 170 13 (.slice (some ⟨g, 0, none⟩) (P.length + 1) cap) (P.length + 1) ((List.range (P.length * 13)).map (pF P sn0 tn0) ++ ptCells x)) :
    PM w2 base (some ⟨g, 0, none⟩) cap (P ++ [x]) sn0 tn0 := by
  unfold PM
  rw [List.length_append, show ([x] : List Pt).length = 1 from rfl, pF_app]
  exact h
theorem PM.nil (w : World) (base : Nat) : PM w base none 0 [] sn0 tn0 := World.ownsRow_nil w base 170 13
theorem PM.turn {w : World} {base g c : Nat} {P : List Pt} {sn : Nat → Nat → Nat} {tn : Nat → Nat} (h : PM w base (some ⟨g, 0, none⟩) c P sn tn) (j v : Nat) : PM (w.setCell ⟨g, j * 13 + 12, none⟩ (.int .i64 (v : Int))) base (some ⟨g, 0, none⟩) c P sn (fun i => if i = j then v else tn i) := by
  have hst := (World.ownsRow.stored h (j * 13 + 12) (.int .i64 (v : Int))).1
  unfold PM
  rw [show (List.range (P.length * 13)).map (pF P sn (fun i => if i = j then v else tn i)) = ((List.range (P.length * 13)).map (pF P sn tn)).set (j * 13 + 12) (.int .i64 (v : Int)) from ?_]
  · exact hst
  · apply List.ext_getElem?
    intro i
    by_cases hi : i < P.length * 13
    · by_cases e : i = j * 13 + 12
      · subst e
        rw [List.getElem?_set_self (by simp; omega)]
        simp only [List.getElem?_map, List.getElem?_range hi, Option.map_some, pF_at _ _ _ j 12 (by omega)]
        simp [pcell]
      · rw [List.getElem?_set_ne (fun e' => e e'.symm)]
        simp only [List.getElem?_map, List.getElem?_range hi, Option.map_some]
        congr 1
        unfold pF pcell
        by_cases h12 : i % 13 = 12
        · rw [h12]
          simp only [show ¬ (12 = 0) by decide, show ¬ (12 = 1) by decide, show ¬ (12 = 2) by decide, show ¬ (12 = 3) by decide, if_false, if_true]
          rw [if_neg (by omega)]
        · repeat' split
          all_goals first | rfl | omega
    · rw [List.getElem?_eq_none (by simp; omega), List.getElem?_eq_none (by simp; omega)]
theorem PM.ex {w w2 : World} {base c : Nat} {A : Option Addr} {P : List Pt} {sn : Nat → Nat → Nat} {tn : Nat → Nat} {S : Nat → Prop} (h : PM w base A c P sn tn) (he : Ex w w2 S) (hn : ∀ k, (Value.slice A P.length c).ownBlock = some k → ¬ S k) : PM w2 base A c P sn tn :=
  h.kept fun g hg => he.block g (World.ownsRow.lt h g hg).2 (hn g hg)
theorem PM.tnc {w : World} {base c : Nat} {A : Option Addr} {P : List Pt} {sn : Nat → Nat → Nat} {tn tn' : Nat → Nat} (h : PM w base A c P sn tn) (he : ∀ i, i < P.length → tn i = tn' i) : PM w base A c P sn tn' := by
  unfold PM
  rw [show (List.range (P.length * 13)).map (pF P sn tn') = (List.range (P.length * 13)).map (pF P sn tn) from ?_]
  · exact h
  · refine List.map_congr_left fun i hi => ?_
    have hi' := List.mem_range.1 hi
    unfold pF
    rw [he (i / 13) (by omega)]
abbrev KB (t : Int) : Prop := 0 ≤ t ∧ t ≤ 1099511627776
theorem pkey {t : Int} (h : KB t) : keyOf Try.prog 3 (.int .i64 t) = some (.int .i64 t) := Maps.keyOf_int_mk Try.underlying3 (WalkArith.wf_i64 (by have := h.1; have := h.2; omega))
def PlM (w : World) (mb m : Nat) (op : Int → Option Nat) : Prop :=
  ∃ D, w.ownsMap (H := Unit) Try.prog 3 (plainElem Try.prog 3) mb m D ∧ IsMap D ∧ ∀ t : Int, KB t → (op t = none → has D (.int .i64 t) = false) ∧ ∀ k : Nat, op t = some k → has D (.int .i64 t) = true ∧ ∀ zd, D.atKey (.int .i64 t) zd = .lit (.int .i64 (k : Int))
theorem PlM.lt {w : World} {mb m : Nat} {op : Int → Option Nat} (h : PlM w mb m op) : mb < w.heap.size := by
  obtain ⟨D, h1, _⟩ := h
  exact h1.lt
theorem PlM.kept {w w' : World} {mb m : Nat} {op : Int → Option Nat} (h : PlM w mb m op) (hk : w'.heap[mb]? = w.heap[mb]?) : PlM w' mb m op := by
  obtain ⟨D, ⟨es, ck, h1, h2⟩, h3⟩ := h
  exact ⟨D, ⟨es, ck, hk.trans h1, h2⟩, h3⟩
theorem PlM.start (w : World) : PlM (w.alloc (.map #[] 0)) w.heap.size 0 (fun _ => none) :=
  ⟨.map [], World.ownsMap_made _ _ _ _, ⟨_, rfl⟩, fun t _ => ⟨fun _ => rfl, fun k h => by cases h⟩⟩
set_option maxRecDepth 100000 in
theorem PlM.look {w : World} {mb m : Nat} {op : Int → Option Nat} (h : PlM w mb m op) {t : Int} (ht : KB t) {k : Nat} (hk : op t = some k) :
    (Instr.lookup 147 (.map (some mb)) (.int .i64 t) false).run Try.prog w = .ok (.int .i64 (k : Int)) w := by
  obtain ⟨D, hown, _, h4⟩ := h
  obtain ⟨v, ps, hrun, hv⟩ := hown.lookup (int_keyed Try.underlying3) Try.underlying147 (zero3 w) (plainElem_int Try.underlying3 (by decide)) (pkey ht)
  obtain ⟨c, rfl, hc, _⟩ := plainElem_int_inv Try.underlying3 hv
  simp only [Prod.mk.injEq] at hc
  obtain ⟨q1, q2⟩ := h4 t ht
  have hc1 := hc.1
  obtain ⟨a, b⟩ := q2 k hk
  rw [b] at hc1
  injection hc1 with hc1
  injection hc1 with _ hc1
  rw [hrun, ← hc1]
set_option maxRecDepth 100000 in
theorem PlM.put {w : World} {mb m : Nat} {op : Int → Option Nat} (h : PlM w mb m op) {t : Int} (ht : KB t) (hm : m < maxLen) {k : Nat} (hk : k < 4611686018427387904) :
    ∃ w', (Instr.mapUpdate 147 (.map (some mb)) (.int .i64 t) (.int .i64 (k : Int))).run Try.prog w = .ok () w' ∧ PlM w' mb (m + 1) (fun x => if x = t then some k else op x) ∧ w.grownBy w' (some mb) := by
  obtain ⟨D, hown, h3, h4⟩ := h
  obtain ⟨w', hr, ho, hg⟩ := hown.update (int_keyed Try.underlying3) Try.underlying147 hm (pkey ht) (plainElem_int (a := (k : Int)) Try.underlying3 (WalkArith.wf_i64 (by omega)))
  refine ⟨w', hr, ⟨_, ho, h3.put _ _, fun x hx => ?_⟩, hg⟩
  by_cases e : x = t
  · subst e
    have hik : WideAt.IsKeyLit (Lit.int .i64 x) := trivial
    dsimp only
    rw [if_pos rfl]
    refine ⟨fun q => (by cases q), fun k' q => ?_⟩
    injection q with q
    subst q
    exact ⟨has_put_same h3 hik _, fun zd => atKey_put_same h3 hik _ zd⟩
  · dsimp only
    rw [if_neg e]
    refine ⟨fun q => by rw [has_put_other (lit_ne' e)]; exact (h4 x hx).1 q, fun k' q => ?_⟩
    obtain ⟨a, b⟩ := (h4 x hx).2 k' q
    exact ⟨by rw [has_put_other (lit_ne' e)]; exact a, fun zd => by rw [atKey_put_other (lit_ne' e)]; exact b zd⟩
structure OwP (w : World) (base gO baseR : Nat) (hd : Nat → Value) (own : Nat → List Nat) : Prop where
  blk : Blk w base 171 gO 8 hd
  lt : gO < baseR
  row : ∀ t, t < 8 → w.ownsRow baseR 3 1 (hd t) (own t).length (ints (lks (own t)))
  apart : ∀ s t, s < 8 → t < 8 → s ≠ t → (hd s).ownBlock = none ∨ (hd s).ownBlock ≠ (hd t).ownBlock
section
variable {w w2 : World} {base gO baseR : Nat} {hd : Nat → Value} {own : Nat → List Nat}
theorem OwP.kept (h : OwP w base gO baseR hd own) {S : Nat → Prop} (he : Ex w w2 S) (h0 : ¬ S gO) (h1 : ∀ k, baseR ≤ k → k < w.heap.size → ¬ S k) : OwP w2 base gO baseR hd own := by
  refine ⟨h.blk.kept (he.block gO h.blk.lt.2 h0), h.lt, fun t ht => ?_, h.apart⟩
  have hr := h.row t ht
  refine ⟨(show _ ∧ _ from hr).1, ?_⟩
  rcases (show _ ∨ _ from hr.2) with h2 | ⟨g, cap, cur, hv, hbg, hh, h3⟩
  · exact .inl h2
  · have hg := (Array.getElem?_eq_some_iff.1 hh).1
    exact .inr ⟨g, cap, cur, hv, hbg, (he.block g hg (h1 g hbg hg)).trans hh, h3⟩
theorem OwP.step (h : OwP w base gO baseR hd own) {t p : Nat} (ht : t < 8) {v : Value} (hg : w.grownBy w2 (hd t).ownBlock) (ho : w2.ownsRow baseR 3 1 v ((own t).length + 1) (ints (lks (own t)) ++ [.int .i64 (p : Int)]))
    (hv : v.ownBlock = (hd t).ownBlock ∨ ∃ g, v.ownBlock = some g ∧ w.heap.size ≤ g) : OwP (w2.setCell ⟨gO, t, none⟩ v) base gO baseR (fun i => if i = t then v else hd i) (fun i => if i = t then own t ++ [p] else own i) := by
  have hgl := h.blk.lt
  have hfar : ∀ i, i < 8 → ∀ g, (hd i).ownBlock = some g → baseR ≤ g ∧ g < w.heap.size := fun i hi g hg => (h.row i hi).lt g hg
  have hne0 : (hd t).ownBlock ≠ some gO := fun e => by have := (hfar t ht _ e).1; have := h.lt; omega
  have hvO : v.ownBlock ≠ some gO := by
    rcases hv with h1 | ⟨g, h1, h2⟩
    · rw [h1]; exact hne0
    · rw [h1]; intro e; injection e with e; omega
  have hset : ∀ {k : Nat}, k ≠ gO → (w2.setCell ⟨gO, t, none⟩ v).heap[k]? = w2.heap[k]? := fun {k} hk => Below.heap_setCell w2 ⟨gO, t, none⟩ v k hk
  refine ⟨(h.blk.kept (hg.block gO hgl.2 (fun e => hne0 e.symm))).set t v, h.lt, fun i hi => ?_, fun i j hi hj hij => ?_⟩
  · by_cases e : i = t
    · subst e
      simp only [if_true]
      have hr : w2.ownsRow baseR 3 1 v (own i ++ [p]).length (ints (lks (own i ++ [p]))) := by
        have : ints (lks (own i ++ [p])) = ints (lks (own i)) ++ [.int .i64 (p : Int)] := by simp [ints, lks]
        rw [this, List.length_append]
        exact ho
      refine ⟨(show _ ∧ _ from hr).1, ?_⟩
      rcases (show _ ∨ _ from hr.2) with h2 | ⟨g, cap, cur, hv', hbg, hh, h3⟩
      · exact .inl h2
      · exact .inr ⟨g, cap, cur, hv', hbg, (hset (by have := h.lt; omega)).trans hh, h3⟩
    · simp only [if_neg e]
      have hr := h.row i hi
      refine ⟨(show _ ∧ _ from hr).1, ?_⟩
      rcases (show _ ∨ _ from hr.2) with h2 | ⟨g, cap, cur, hv', hbg, hh, h3⟩
      · exact .inl h2
      · have hgs := (Array.getElem?_eq_some_iff.1 hh).1
        refine .inr ⟨g, cap, cur, hv', hbg, ((hset (by have := h.lt; omega)).trans (hg.block g hgs ?_)).trans hh, h3⟩
        intro e2
        rcases h.apart i t hi ht e with h4 | h4
        · rw [hv'] at h4; cases h4
        · apply h4
          rw [← e2, hv']
          rfl
  · by_cases e1 : i = t
    · subst e1
      rw [if_pos rfl, if_neg (Ne.symm hij)]
      rcases hv with h1 | ⟨g, h1, h2⟩
      · rw [h1]; exact h.apart i j hi hj hij
      · right
        rw [h1]
        intro e
        have := (hfar j hj g e.symm).2
        omega
    · rw [if_neg e1]
      by_cases e2 : j = t
      · subst e2
        rw [if_pos rfl]
        rcases hv with h1 | ⟨g, h1, h2⟩
        · rw [h1]; exact h.apart i j hi hj hij
        · right
          rw [h1]
          intro e
          have := (hfar i hi g e).2
          omega
      · rw [if_neg e2]
        exact h.apart i j hi hj hij
theorem OwP.reads (h : OwP w base gO baseR hd own) {g d : Nat} (h0 : gO ≠ g ∧ gO ≠ d) (h1 : ∀ k, baseR ≤ k → k < w.heap.size → k ≠ g ∧ k ≠ d) : OwR w gO g d own := by
  refine ⟨h0, fun t ht => ?_⟩
  have hr := h.row t ht
  obtain ⟨A, c, hv⟩ := own_shape hr
  refine ⟨A, c, by rw [(h.blk.cell ht).1, hv], fun hp => ?_⟩
  rw [hv] at hr
  obtain ⟨k, cap, hv', hbg, hlt⟩ := World.ownsRow.form hr (by omega)
  have hA : A = some ⟨k, 0, none⟩ := by injection hv'
  subst hA
  obtain ⟨n1, n2⟩ := h1 k hbg hlt
  refine ⟨k, rfl, n1, n2, fun i p hi => ?_⟩
  have hil := (List.getElem?_eq_some_iff.1 hi).1
  rw [World.ownsRow.cellAt hr i (by omega)]
  simp [ints, lks, hi]
end
end Go.Proofs.Ytjifpjfinffamaa
end
section
namespace Go.Proofs.Ytjifpjfinffamaa
theorem evB_kind {b : Bl} (h : 1 ≤ b.kind) (i : Nat) (e : Ev) : 1 ≤ (evB b i e).kind := by
  unfold evB clB stB
  repeat' split
  all_goals first | exact h | (show (1 : Int) ≤ 1; decide) | (show (1 : Int) ≤ 2; decide) | (show (1 : Int) ≤ 3; decide) | (show (1 : Int) ≤ 4; decide)
theorem blAt_set_ (L : List Bl) (k j : Nat) (b : Bl) : blAt (L.set k b) j = if k = j ∧ j < L.length then b else blAt L j := by
  unfold blAt
  simp only [List.getD]
  by_cases h : k = j
  · subst h
    by_cases h2 : k < L.length
    · rw [if_pos ⟨rfl, h2⟩, List.getElem?_set_self h2]
      rfl
    · rw [if_neg (fun q => h2 q.2), List.set_eq_of_length_le (by omega)]
  · rw [if_neg (fun q => h q.1), List.getElem?_set_ne h]
theorem cutF_kind : ∀ (r : List Ev) (p : Nat) (c : CS), (∀ j, j < c.bl.length → 1 ≤ (blAt c.bl j).kind) → ∀ j, j < (cutF c r p).bl.length → 1 ≤ (blAt (cutF c r p).bl j).kind
  | [], _, _, h => h
  | e :: r, p, c, h => by
    refine cutF_kind r (p + 1) (cutS c p e) ?_
    unfold cutS
    split
    · intro j hj
      dsimp only at hj ⊢
      rw [blAt_append]
      split
      · show (1 : Int) ≤ 5
        decide
      · rw [List.length_append] at hj
        exact h j (by simp at hj; omega)
    · split
      · exact h
      · rename_i k _
        intro j hj
        dsimp only at hj ⊢
        rw [List.length_set] at hj
        rw [blAt_set_]
        split
        · rename_i hk
          rw [hk.1]
          exact evB_kind (h j hj) _ _
        · exact h j hj
theorem wBl_kind (l : List Ev) {j : Nat} (hj : j < (wBl l).length) : 1 ≤ (blAt (wBl l) j).kind := by
  rw [wBl_at hj]
  exact cutF_kind l 0 cs0 (fun j hj => by simp [cs0] at hj) j (by rw [← wBl_len]; exact hj)
theorem over_kind {l : List Ev} {j : Nat} (hj : j < (wBl l).length) : OverB (blAt (wBl l) j) = true ↔ (blAt (wBl l) j).kind ≤ 3 := by
  unfold OverB
  have := wBl_kind l hj
  simp [this]
def plO (bl : List Bl) (k : Nat) (t : Int) : Option Nat := if 0 ≤ t ∧ t.toNat < k ∧ OverB (blAt bl t.toNat) = true then some (plc bl t.toNat) else none
theorem plO_zero (bl : List Bl) : plO bl 0 = fun _ => none := by
  funext t
  unfold plO
  rw [if_neg (by omega)]
theorem plO_hit {bl : List Bl} {k : Nat} (h : OverB (blAt bl k) = true) : (fun x => if x = (k : Int) then some (ptsB bl k).length else plO bl k x) = plO bl (k + 1) := by
  funext t
  unfold plO
  by_cases e : t = (k : Int)
  · subst e
    rw [if_pos rfl, if_pos ⟨by omega, by simp, by simpa using h⟩]
    rfl
  · rw [if_neg e]
    by_cases h2 : 0 ≤ t ∧ t.toNat < k ∧ OverB (blAt bl t.toNat) = true
    · rw [if_pos h2, if_pos ⟨h2.1, by omega, h2.2.2⟩]
    · rw [if_neg h2, if_neg (fun q => h2 ⟨q.1, by have := q.2.1; omega, q.2.2⟩)]
theorem plO_miss {bl : List Bl} {k : Nat} (h : ¬ OverB (blAt bl k) = true) : plO bl k = plO bl (k + 1) := by
  funext t
  unfold plO
  by_cases h2 : 0 ≤ t ∧ t.toNat < k ∧ OverB (blAt bl t.toNat) = true
  · rw [if_pos h2, if_pos ⟨h2.1, by omega, h2.2.2⟩]
  · rw [if_neg h2, if_neg]
    rintro ⟨q1, q2, q3⟩
    by_cases e : t.toNat = k
    · rw [e] at q3; exact h q3
    · exact h2 ⟨q1, by omega, q3⟩
theorem plO_at {bl : List Bl} {k i : Nat} (hi : i < k) (h : OverB (blAt bl i) = true) : plO bl k (i : Int) = some (plc bl i) := by
  unfold plO
  rw [if_pos ⟨by omega, by simpa using hi, by simpa using h⟩]
  simp
end Go.Proofs.Ytjifpjfinffamaa
end
section
namespace Go.Proofs.Ytjifpjfinffamaa
open Go.RowKit Go.Maps
theorem OwnI.made (w : World) (n : Nat) (hn : n ≤ maxLen) : OwnI (w.alloc (.cells (madeCells #[.int .i64 0] n) 3)) w.heap.size (some ⟨w.heap.size, 0, none⟩) n (List.replicate n 0) := by
  have hds : (madeCells #[Value.int .i64 0] n).toList = ints (List.replicate n 0) := by
    rw [toList_madeCells_one]
    simp [ints]
  unfold OwnI
  rw [List.length_replicate]
  refine ⟨by simp [ints], .inr ⟨w.heap.size, n, _, rfl, Nat.le_refl _, heap_alloc_new w _, Nat.le_refl _, hn, by rw [size_madeCells, Nat.mul_one], ?_⟩⟩
  rw [hds]
  rw [List.take_of_length_le (by simp [ints])]
theorem own_keep {w w' : World} {base e size n : Nat} {v : Value} {xs : List Value} (h : w.ownsRow base e size v n xs) (hk : ∀ g, v.ownBlock = some g → w'.heap[g]? = w.heap[g]?) : w'.ownsRow base e size v n xs := by
  refine ⟨(show _ ∧ _ from h).1, ?_⟩
  rcases (show _ ∨ _ from h.2) with h2 | ⟨g, cap, cur, hv, hbg, hh, h3⟩
  · exact .inl h2
  · exact .inr ⟨g, cap, cur, hv, hbg, (hk g (by rw [hv]; rfl)).trans hh, h3⟩
theorem OwnI.get {w : World} {base b c : Nat} {xs : List Int} (h : OwnI w base (some ⟨b, 0, none⟩) c xs) {j : Nat} (hj : j < xs.length) : ∃ x, xs[j]? = some x ∧ w.cell? ⟨b, j, none⟩ = some (.int .i64 x) ∧ w.frozen? ⟨b, j, none⟩ = false := by
  refine ⟨xs[j], List.getElem?_eq_getElem hj, ?_, h.frozenAt j⟩
  rw [h.cellAt j (by simpa using hj)]
  simp [ints, hj]
def negs (n k : Nat) : List Int := (List.range n).map fun i => if i < k then -1 else 0
theorem negs_len (n k : Nat) : (negs n k).length = n := by simp [negs]
theorem negs_zero (n : Nat) : negs n 0 = List.replicate n 0 := by
  apply List.ext_getElem?
  intro i
  by_cases h : i < n
  · simp [negs, h]
  · rw [List.getElem?_eq_none (by simp [negs]; omega), List.getElem?_eq_none (by simp; omega)]
theorem negs_step (n k : Nat) : (negs n k).set k (-1) = negs n (k + 1) := by
  apply List.ext_getElem?
  intro i
  by_cases h : i < n
  · rw [List.getElem?_set]
    by_cases e : k = i
    · subst e
      simp [negs, h]
    · simp only [negs, List.getElem?_map, List.getElem?_range h, Option.map_some, if_neg e]
      congr 1
      by_cases h2 : i < k
      · rw [if_pos h2, if_pos (by omega)]
      · rw [if_neg h2, if_neg (by omega)]
  · rw [List.getElem?_eq_none (by simp [negs]; omega), List.getElem?_eq_none (by simp [negs]; omega)]
theorem Blk.of_heap {w : World} {base t b n : Nat} {f : Nat → Value} {cs : Array Value} (h : w.heap[b]? = some (.cells cs t (0, 0))) (hb : base ≤ b) (hn : cs.size = n) (hv : ∀ i, i < n → cs[i]? = some (f i)) : Blk w base t b n f := by
  unfold Blk
  refine ⟨by simp, .inr ⟨b, 1, cs, rfl, hb, h, Nat.le_refl _, by decide, by omega, ?_⟩⟩
  apply List.ext_getElem?
  intro i
  by_cases hi : i < n
  · rw [List.getElem?_take_of_lt (by omega), Array.getElem?_toList, hv i hi]
    simp [hi]
  · rw [List.getElem?_eq_none (by simp; omega), List.getElem?_eq_none (by simp; omega)]
structure WA (w0 wA : World) (l : List Ev) (A : Option Addr) (bl : List Bl) (lk : List Nat) (Ab : Option Addr) (cb : Nat) (hd : Nat → Value) (Ao : Option Addr) (co : Nat) (k : Nat) : Prop where
  bel : Below w0.heap.size w0 wA
  ev : EvR wA w0.heap.size A l
  sz : w0.heap.size + 3 ≤ wA.heap.size
  of : OwnI wA w0.heap.size (some ⟨w0.heap.size, 0, none⟩) l.length (negs l.length k)
  var : wA.cell? ⟨w0.heap.size + 2, 0, none⟩ = some (.pointer (some ⟨w0.heap.size + 1, 0, none⟩))
  web : Blk wA w0.heap.size 134 (w0.heap.size + 1) 3 (webF none 0 0 (some ⟨w0.heap.size, 0, none⟩) l.length l.length (.slice Ab bl.length cb))
  blk : HB wA (w0.heap.size + 3) Ab bl.length cb bl hd
  ord : OwnI wA (w0.heap.size + 3) Ao co (lks (ordS bl lk bl.length))
theorem WA.neg {w0 wA : World} {l : List Ev} {A : Option Addr} {bl : List Bl} {lk : List Nat} {Ab : Option Addr} {cb : Nat} {hd : Nat → Value} {Ao : Option Addr} {co k : Nat} (h : WA w0 wA l A bl lk Ab cb hd Ao co k) : WA w0 (wA.setCell ⟨w0.heap.size, k, none⟩ (.int .i64 (-1))) l A bl lk Ab cb hd Ao co (k + 1) := by
  have hset : ∀ j, j ≠ w0.heap.size → (wA.setCell ⟨w0.heap.size, k, none⟩ (.int .i64 (-1))).heap[j]? = wA.heap[j]? := fun j hj => Below.heap_setCell wA ⟨w0.heap.size, k, none⟩ _ j hj
  have hs := h.sz
  refine ⟨h.bel.setCell (Nat.le_refl _) _, h.ev.keep fun p hp => World.cell?_of_block (hset _ (by omega)), by simpa using h.sz, ?_, ?_, h.web.kept (hset _ (by omega)), ?_, ?_⟩
  · have := h.of.setAt k (-1)
    rwa [negs_step] at this
  · exact (World.cell?_of_block (w := wA) (hset _ (by show w0.heap.size + 2 ≠ _; omega))).trans h.var
  · exact h.blk.keep (fun g hg => hset g (by have := (World.ownsRow.lt h.blk.row g hg).1; omega)) (fun i hi g hg => hset g (by have := ((h.blk.own i hi).lt g hg).1; omega))
  · refine ⟨(show _ ∧ _ from h.ord).1, ?_⟩
    rcases (show _ ∨ _ from h.ord.2) with h2 | ⟨g, cap, cur, hv, hbg, hh, h3⟩
    · exact .inl h2
    · exact .inr ⟨g, cap, cur, hv, hbg, (hset g (by omega)).trans hh, h3⟩
structure LpP (wA wr : World) (B n : Nat) (vb : Value) (Ap : Option Addr) (cp : Nat) (P : List Pt) (m : Nat) (op : Int → Option Nat) : Prop where
  ex : Ex wA wr (fun k => k = B + 1)
  web : Blk wr B 134 (B + 1) 3 (webF Ap cp P.length (some ⟨B, 0, none⟩) n n vb)
  pm : PM wr (wA.heap.size + 1) Ap cp P sn0 tn0
  pl : PlM wr wA.heap.size m op
section
variable {w0 wA wr w2 w3 : World} {l : List Ev} {A Ab Ao : Option Addr} {bl : List Bl} {lk : List Nat} {cb co k : Nat} {hd : Nat → Value} {B n : Nat} {vb : Value} {Ap : Option Addr} {cp : Nat} {P : List Pt} {m : Nat} {op : Int → Option Nat}
theorem LpP.start (hwb : Blk wA B 134 (B + 1) 3 (webF none 0 0 (some ⟨B, 0, none⟩) n n vb)) : LpP wA (wA.alloc (.map #[] 0)) B n vb none 0 [] 0 (fun _ => none) := by
  refine ⟨(Ex.refl wA _).alloc _, ?_, PM.nil _ _, PlM.start wA⟩
  have := hwb.lt
  exact hwb.kept (((Ex.refl wA (fun _ => False)).alloc (.map #[] 0)).block _ this.2 (fun h => h))
theorem LpP.kept (h : LpP wA wr B n vb Ap cp P m op) (hB : B + 1 < wA.heap.size) {k0 : Nat} (hk0 : wr.heap.size ≤ k0) {w2 : World} (he : Ex wr w2 (fun k => k = k0)) : LpP wA w2 B n vb Ap cp P m op := by
  have hs := h.ex.size
  refine ⟨h.ex.trans he (fun k h1 h2 => by omega), h.web.kept (he.block _ (by omega) (by omega)), h.pm.ex he (fun k hk => ?_), h.pl.kept (he.block _ h.pl.lt (by have := h.pl.lt; omega))⟩
  have := (World.ownsRow.lt h.pm k hk).2
  omega
theorem LpP.alloc (h : LpP wA wr B n vb Ap cp P m op) (hB : B + 1 < wA.heap.size) (o : Obj) : LpP wA (wr.alloc o) B n vb Ap cp P m op := h.kept hB (Nat.le_refl _) ((Ex.refl wr _).alloc o)
theorem LpP.drew (h : LpP wA wr B n vb Ap cp P m op) (hB : B + 1 < wA.heap.size) : LpP wA wr.drew B n vb Ap cp P m op := h.kept hB (Nat.le_refl _) (Ex.refl wr _).drew
theorem LpP.map (h : LpP wA wr B n vb Ap cp P m op) (hB : B + 1 < wA.heap.size) {m2 : Nat} {op2 : Int → Option Nat} (hp : PlM w2 wA.heap.size m2 op2) (hg : wr.grownBy w2 (some wA.heap.size)) : LpP wA w2 B n vb Ap cp P m2 op2 := by
  have hs := h.ex.size
  refine ⟨h.ex.grown hg (fun k h1 h2 => by injection h1 with h1; omega), h.web.kept (hg.block _ (by omega) (fun e => by injection e with e; omega)), h.pm.ex ((Ex.refl wr (fun k => k = wA.heap.size)).grown hg (fun k h1 _ => by injection h1 with h1; exact h1.symm)) (fun k hk => ?_), hp⟩
  have := (World.ownsRow.lt h.pm k hk).1
  omega
theorem LpP.push (h : LpP wA wr B n vb Ap cp P m op) (hB : B + 1 < wA.heap.size) (x : Pt) {g cap : Nat} (hg : wr.grownBy w3 (Value.slice Ap P.length cp).ownBlock)
    (ho : w3.ownsRow (wA.heap.size + 1) 170 13 (.slice (some ⟨g, 0, none⟩) (P.length + 1) cap) (P.length + 1) ((List.range (P.length * 13)).map (pF P sn0 tn0) ++ ptCells x)) :
    LpP wA (w3.setCell ⟨B + 1, 0, none⟩ (.slice (some ⟨g, 0, none⟩) (P.length + 1) cap)) B n vb (some ⟨g, 0, none⟩) cap (P ++ [x]) m op := by
  have hs := h.ex.size
  have hown : ∀ k, (Value.slice Ap P.length cp).ownBlock = some k → wA.heap.size + 1 ≤ k := fun k hk => (World.ownsRow.lt h.pm k hk).1
  have hgB : (Value.slice (some ⟨g, 0, none⟩) (P.length + 1) cap).ownBlock = some g := rfl
  have hgl := (World.ownsRow.lt ho g hgB).1
  have hset : ∀ k, k ≠ B + 1 → (w3.setCell ⟨B + 1, 0, none⟩ (.slice (some ⟨g, 0, none⟩) (P.length + 1) cap)).heap[k]? = w3.heap[k]? := fun k hk => Below.heap_setCell w3 ⟨B + 1, 0, none⟩ _ k hk
  have hwl := h.web.lt
  refine ⟨(h.ex.grown hg (fun k h1 h2 => absurd (hown k h1) (by omega))).set _ _ (fun _ => rfl), ?_, ?_, ?_⟩
  · refine (((h.web.kept (hg.block _ (by omega) (fun e => by have := hown _ e.symm; omega))).set 0 (.slice (some ⟨g, 0, none⟩) (P.length + 1) cap))).congr fun j hj => ?_
    unfold webF
    rw [List.length_append]
    by_cases e : j = 0
    · subst e
      rfl
    · rw [if_neg e, if_neg e, if_neg e]
  · have hp := PM.push x ho
    refine hp.kept fun k hk => hset k ?_
    have : (Value.slice (some ⟨g, 0, none⟩) (P ++ [x]).length cap).ownBlock = some g := rfl
    rw [this] at hk
    injection hk with hk
    omega
  · refine h.pl.kept ((hset _ (by omega)).trans (hg.block _ h.pl.lt (fun e => by have := hown _ e.symm; omega)))
theorem LpP.own (h : LpP wA wr B n vb Ap cp P m op) (j : Nat) (hj : (Value.slice Ap P.length cp).ownBlock = some j) : wA.heap.size + 1 ≤ j ∧ j < wr.heap.size := World.ownsRow.lt h.pm j hj
theorem LpP.web0 (h : LpP wA wr B n vb Ap cp P m op) : wr.cell? ⟨B + 1, 0, none⟩ = some (.slice Ap P.length cp) ∧ wr.frozen? ⟨B + 1, 0, none⟩ = false := h.web.cell (j := 0) (by omega)
theorem WA.wr_cell (_h : WA w0 wA l A bl lk Ab cb hd Ao co k) (he : Ex wA wr (fun k => k = w0.heap.size + 1)) {p : Addr} (hp : p.block < wA.heap.size) (hn : p.block ≠ w0.heap.size + 1) : wr.cell? p = wA.cell? p := he.cell hp hn
theorem WA.evs (h : WA w0 wA l A bl lk Ab cb hd Ao co k) (he : Ex wA wr (fun k => k = w0.heap.size + 1)) : EvR wr w0.heap.size A l := h.ev.keep fun p hp => he.cell (by have := h.sz; omega) (by omega)
theorem WA.blks (h : WA w0 wA l A bl lk Ab cb hd Ao co k) (he : Ex wA wr (fun k => k = w0.heap.size + 1)) : RB wr (w0.heap.size + 3) wA.heap.size Ab bl.length bl hd := h.blk.reads.keep fun p h1 h2 => he.cell h2 (by omega)
theorem WA.varC (h : WA w0 wA l A bl lk Ab cb hd Ao co k) (he : Ex wA wr (fun k => k = w0.heap.size + 1)) : wr.cell? ⟨w0.heap.size + 2, 0, none⟩ = some (.pointer (some ⟨w0.heap.size + 1, 0, none⟩)) := (he.cell (p := ⟨w0.heap.size + 2, 0, none⟩) (by have := h.sz; show w0.heap.size + 2 < _; omega) (by show ¬ (w0.heap.size + 2 = w0.heap.size + 1); omega)).trans h.var
end
structure W0F (w W0 : World) (n : Nat) : Prop where
  sz : W0.heap.size = w.heap.size + 3
  bel : Below w.heap.size w W0
  var : W0.cell? ⟨w.heap.size + 2, 0, none⟩ = some (.pointer (some ⟨w.heap.size + 1, 0, none⟩))
  web : Blk W0 w.heap.size 134 (w.heap.size + 1) 3 (webF none 0 0 (some ⟨w.heap.size, 0, none⟩) n n (.slice none 0 0))
  of : OwnI W0 w.heap.size (some ⟨w.heap.size, 0, none⟩) n (negs n 0)
theorem W0F.start (w : World) (n : Nat) (hn : n ≤ maxLen) : W0F w (((w.alloc (.cells (madeCells #[.int .i64 0] n) 3)).alloc (.cells #[.slice none 0 0, .slice (some ⟨w.heap.size, 0, none⟩) n n, .slice none 0 0] 134)).alloc (.cells #[.pointer (some ⟨w.heap.size + 1, 0, none⟩)] 130)) n := by
  have h1 := OwnI.made w n hn
  rw [← negs_zero] at h1
  refine ⟨by simp, ((((Below.refl _ w).alloc (Nat.le_refl _) _).alloc (by simp) _).alloc (by simp; omega) _), ?_, ?_, ?_⟩
  · rw [cell_of_row _ _ _ _ 130 (0, 0) (heap_at _ _ _ (by simp))]
    rfl
  · refine Blk.of_heap ((Below.heap_alloc _ _ _ (by simp)).trans (heap_at _ _ _ (by simp))) (by omega) rfl fun i hi => ?_
    have : i = 0 ∨ i = 1 ∨ i = 2 := by omega
    rcases this with rfl | rfl | rfl <;> rfl
  · exact own_keep h1 fun g hg => by
      have e : w.heap.size = g := Option.some.inj hg
      subst e
      exact (Below.heap_alloc _ _ _ (by simp; omega)).trans (Below.heap_alloc _ _ _ (by simp))
theorem WA.build {w W0 w1 w4 : World} {l : List Ev} {A : Option Addr} {bl : List Bl} {lk : List Nat} {Ab : Option Addr} {cb : Nat} {hd : Nat → Value} {Ao : Option Addr} {co : Nat} (h0 : W0F w W0 l.length) (hc : EvR w w.heap.size A l)
    (h1 : HB w1 (w.heap.size + 3) Ab bl.length cb bl hd) (hb1 : Below W0.heap.size W0 w1) (h2 : OwnI w4 (w1.setCell ⟨w.heap.size + 1, 2, none⟩ (.slice Ab bl.length cb)).heap.size Ao co (lks (ordS bl lk bl.length)))
    (hb2 : Below (w1.setCell ⟨w.heap.size + 1, 2, none⟩ (.slice Ab bl.length cb)).heap.size (w1.setCell ⟨w.heap.size + 1, 2, none⟩ (.slice Ab bl.length cb)) w4) : WA w w4 l A bl lk Ab cb hd Ao co 0 := by
  have hs1 := hb1.size
  have hs0 := h0.sz
  have hs2 : w1.heap.size ≤ w4.heap.size := by have := hb2.size; simpa using this
  have hset : ∀ j, j ≠ w.heap.size + 1 → (w1.setCell ⟨w.heap.size + 1, 2, none⟩ (.slice Ab bl.length cb)).heap[j]? = w1.heap[j]? := fun j hj => Below.heap_setCell w1 ⟨w.heap.size + 1, 2, none⟩ _ j hj
  have hold : ∀ j, j < w1.heap.size → j ≠ w.heap.size + 1 → w4.heap[j]? = w1.heap[j]? := fun j hj hn => (hb2.block j (by simpa using hj)).trans (hset j hn)
  have hbel : Below w.heap.size w w4 := ((h0.bel.trans (hb1.mono (by omega))).setCell (show w.heap.size ≤ w.heap.size + 1 by omega) _).trans (hb2.mono (by simp; omega))
  refine ⟨hbel, hc.below hbel, by omega, ?_, ?_, ?_, ?_, ?_⟩
  · exact own_keep h0.of fun g hg => by
      have e : w.heap.size = g := Option.some.inj hg
      subst e
      exact (hold _ (by omega) (by omega)).trans (hb1.block _ (by omega))
  · exact (World.cell?_of_block (w := W0) ((hold (w.heap.size + 2) (by omega) (by omega)).trans (hb1.block (w.heap.size + 2) (by omega)))).trans h0.var
  · have h3 := (((h0.web.kept (hb1.block _ (by omega))).set 2 (.slice Ab bl.length cb)).congr (g := webF none 0 0 (some ⟨w.heap.size, 0, none⟩) l.length l.length (.slice Ab bl.length cb)) fun j hj => ?_)
    · exact h3.kept (hb2.block _ (by simp; omega))
    · have : j = 0 ∨ j = 1 ∨ j = 2 := by omega
      rcases this with rfl | rfl | rfl <;> rfl
  · exact h1.keep (fun g hg => hold g (World.ownsRow.lt h1.row g hg).2 (by have := (World.ownsRow.lt h1.row g hg).1; omega)) (fun i hi g hg => hold g ((h1.own i hi).lt g hg).2 (by have := ((h1.own i hi).lt g hg).1; omega))
  · exact own_base h2 (by simp; omega)
end Go.Proofs.Ytjifpjfinffamaa
end
