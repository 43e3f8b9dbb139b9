/- Walk: graph.out: the numbers of the edges that lead from each node. -/
import Derived.Test.YtjifpjfinffamaaLib3
import Derived.Test.YtjifpjfinffamaaW1
import Derived.Deep.RegionHeld3
import Derived.Deep.DrawnRows
import Derived.Deep.RegionLaw
namespace Go.Proofs.Ytjifpjfinffamaa
open Go.RowKit

def eg (l : List E) (i : Nat) : E := l.getD i ⟨0, 0, 0⟩
/-- the numbers of the first k edges' that lead from node a -/
def outRow (l : List E) (a k : Nat) : List Int := ((List.range k).filter fun i => decide ((eg l i).f = (a : Int))).map Int.ofNat
def outRows (l : List E) (n : Nat) : List (List Int) := (List.range n).map fun a => outRow l a l.length

theorem outRow_hit {l : List E} {a k : Nat} (h : (eg l k).f = (a : Int)) : outRow l a (k + 1) = outRow l a k ++ [(k : Int)] := by
  simp [outRow, List.range_succ, h]
theorem outRow_miss {l : List E} {a k : Nat} (h : (eg l k).f ≠ (a : Int)) : outRow l a (k + 1) = outRow l a k := by
  simp [outRow, List.range_succ, h]
theorem outRow_len (l : List E) (a k : Nat) : (outRow l a k).length ≤ k := by
  unfold outRow
  rw [List.length_map]
  have := List.length_filter_le (fun i => decide ((eg l i).f = (a : Int))) (List.range k)
  simpa using this

structure OutInv (l : List E) (N base g0 : Nat) (w wr : World) (k : Nat) (hd : Nat → Value) : Prop where
  hdr : wr.ownsRow base 31 1 (.slice (some ⟨g0, 0, none⟩) N N) N ((List.range N).map hd)
  row : ∀ a, a < N → wr.ownsRow base 3 1 (hd a) (outRow l a k).length (ints (outRow l a k))
  apart : ∀ a b, a < N → b < N → a ≠ b → (hd a).ownBlock = none ∨ (hd a).ownBlock ≠ (hd b).ownBlock
  below : Below base w wr

/-- row a is grown by k, and its header stored -/
theorem OutInv.step {l : List E} {N base g0 : Nat} {w wr w2 : World} {k a : Nat} {hd : Nat → Value} (h : OutInv l N base g0 w wr k hd) (ha : a < N) (hf : (eg l k).f = (a : Int)) {v : Value}
    (hg : wr.grownBy w2 (hd a).ownBlock) (ho : w2.ownsRow base 3 1 v ((outRow l a k).length + 1) (ints (outRow l a k) ++ [.int .i64 (k : Int)])) (hv : v.ownBlock = (hd a).ownBlock ∨ ∃ g, v.ownBlock = some g ∧ wr.heap.size ≤ g) (hb : base ≤ wr.heap.size) :
    OutInv l N base g0 w (w2.setCell ⟨g0, a, none⟩ v) (k + 1) (fun b => if b = a then v else hd b) := by
  have hne0 : (hd a).ownBlock ≠ some g0 := by
    rcases h.hdr.2 with ⟨hc, _⟩ | ⟨g', cap, cur, hv', _, hh, _⟩
    · cases hc
    · injection hv' with hv'
      injection hv' with hv'
      injection hv' with hv'
      subst hv'
      exact own_ne_blk (h.row a ha) hh (by decide)
  have hg0 := h.hdr.lt g0 rfl
  have hh2 : w2.ownsRow base 31 1 (.slice (some ⟨g0, 0, none⟩) N N) N ((List.range N).map hd) := h.hdr.kept hg (.inr (fun hc => hne0 hc.symm))
  have hst := hh2.stored a v
  have hvg : v.ownBlock ≠ some g0 := by
    rcases hv with h1 | ⟨g, h1, h2⟩
    · rw [h1]; exact hne0
    · rw [h1]; intro hc; injection hc with hc; omega
  refine ⟨?_, ?_, ?_, (h.below.grown hg hb (fun g hgv => ((h.row a ha).lt g hgv).1)).setCell (by exact hg0.1) _⟩
  · have e : (List.range N).map (fun b => if b = a then v else hd b) = ((List.range N).map hd).set a v := by
      apply List.ext_getElem?
      intro i
      rw [List.getElem?_map, List.getElem?_set, List.getElem?_map, List.length_map, List.length_range]
      by_cases hi : i < N
      · by_cases hia : a = i
        · subst hia; simp [hi]
        · simp [hi, hia, Ne.symm hia]
      · by_cases hia : a = i
        · subst hia; omega
        · simp [hi, hia]
    rw [e]
    exact hst.1
  · intro b hb'
    by_cases hba : b = a
    · subst hba
      rw [if_pos rfl, outRow_hit hf]
      have : ints (outRow l b k ++ [(k : Int)]) = ints (outRow l b k) ++ [.int .i64 (k : Int)] := by simp [ints]
      rw [this, List.length_append]
      exact ho.kept hst.2 (.inr hvg)
    · rw [if_neg hba, outRow_miss (by rw [hf]; omega)]
      refine ((h.row b hb').kept hg ?_).kept hst.2 ?_
      · exact h.apart b a hb' ha hba
      · right
        rcases h.hdr.2 with ⟨hc, _⟩ | ⟨g', cap, cur, hv', _, hh, _⟩
        · cases hc
        · injection hv' with hv'
          injection hv' with hv'
          injection hv' with hv'
          subst hv'
          exact own_ne_blk (h.row b hb') hh (by decide)
  · intro b c hb' hc' hbc
    have hfar : ∀ d, d < N → ∀ g, v.ownBlock = some g → wr.heap.size ≤ g → (hd d).ownBlock ≠ v.ownBlock := by
      intro d hd' g hvg hge hc
      rw [hvg] at hc
      have := ((h.row d hd').lt g hc).2
      omega
    by_cases hba : b = a
    · subst hba
      rw [if_pos rfl, if_neg (Ne.symm hbc)]
      rcases hv with h1 | ⟨g, h1, h2⟩
      · rw [h1]; exact h.apart b c hb' hc' hbc
      · exact .inr (Ne.symm (hfar c hc' g h1 h2))
    · rw [if_neg hba]
      by_cases hca : c = a
      · subst hca
        rw [if_pos rfl]
        rcases hv with h1 | ⟨g, h1, h2⟩
        · rw [h1]; exact h.apart b c hb' hc' hbc
        · exact .inr (hfar b hb' g h1 h2)
      · rw [if_neg hca]
        exact h.apart b c hb' hc' hbc

theorem OutInv.reads {l : List E} {N base g0 : Nat} {w wr : World} {hd : Nat → Value} (h : OutInv l N base g0 w wr l.length hd) : RR wr wr.heap.size (some ⟨g0, 0, none⟩) (outRows l N) := by
  intro hn
  refine ⟨g0, 0, rfl, (h.hdr.lt g0 rfl).2, fun i hi => ?_⟩
  have hiN : i < N := by simpa [outRows] using hi
  have ho := h.row i hiN
  obtain ⟨A, c, hv⟩ := own_shape ho
  have hrow : (outRows l N)[i] = outRow l i l.length := by simp [outRows]
  refine ⟨A, c, ?_, ?_⟩
  · rw [Nat.zero_add, h.hdr.cellAt i (by omega), hrow]
    simp [hiN, hv]
  · rw [hrow]
    rw [hv] at ho
    exact RK.of_own ho

set_option maxRecDepth 100000 in
set_option maxHeartbeats 1600000 in
theorem out_any (N : Nat) (A : Option Addr) (cap : Nat) (l : List E) (w : World) (hN : N ≤ 65536) (ok : Ok N l) (hl : l.length * 24 ≤ 140737488351232) (hc : RE w w.heap.size A l) :
    Calls Try.prog 68 #[.int .i64 N, .slice A l.length cap] w fun e w' => ∃ A' c', e = .returned (.slice A' N c') ∧ RR w' w'.heap.size A' (outRows l N) ∧ Below w.heap.size w w' := by
  go_enter Try.func68, Try.ntmps68
  obtain ⟨i0, hi, hz0, hz1, hz2⟩ := info_parts info31
  go_wp2_with (at_make; refine halt_ ?_)
  refine Halt_.go ?_
  refine wpList_make_full _ rfl _ _ 107 rfl w.heap.size 31 i0 _ 1 Try.underlying107 hi hz0 hz1 _ _ _ _ N rfl rfl rfl rfl (by rw [hz2]; omega) (by unfold maxLen; omega) (Nat.le_refl _) ?_
  intro w1 hown1 hgrow1
  have hst : OutInv l N w.heap.size w.heap.size w w1 0 (fun _ => .slice none 0 0) := by
    refine ⟨?_, fun a _ => by simpa [outRow, ints] using World.ownsRow_nil w1 w.heap.size 3 1, fun _ _ _ _ _ => .inl rfl, (Below.refl _ _).grown hgrow1 (Nat.le_refl _) (fun g hg => by cases hg)⟩
    have e : (madeCells (Value.slice none 0 0).cells (N * 1)).toList = (List.range N).map fun _ => Value.slice none 0 0 := by
      rw [show (Value.slice none 0 0).cells = #[Value.slice none 0 0] from rfl, toList_madeCells_one, Nat.mul_one]
      apply List.ext_getElem?
      intro i
      simp [List.getElem?_replicate]
      split <;> simp_all
    rw [← e]
    exact hown1
  clear hown1 hgrow1 hi hz0 hz1 hz2
  have hbase := hst.below.size
  go_wp2
  go_loopw [12] (fun i wr => ∃ (k : Nat) (hd : Nat → Value), k ≤ l.length ∧ i = .int .i64 k ∧ OutInv l N w.heap.size w.heap.size w wr k hd) (fun i _ => l.length - (intOf i).toNat)
  case atStart => exact ⟨0, _, Nat.zero_le _, rfl, hst⟩
  case round =>
    clear hst
    obtain ⟨k, hd, hk, rfl, hI⟩ := hrel
    have hsz := hI.below.size
    by_cases hlt : k < l.length
    · obtain ⟨b, off, f, t, kk, rfl, hb, he, h1, h2, h3⟩ := hc.at_ hI.below hlt
      have hmem := ok _ (List.mem_of_getElem? he.out)
      have hfe : (eg l k).f = f := by simp [eg, List.getD, he.out]
      simp only at hmem
      obtain ⟨a, rfl⟩ := Int.eq_ofNat_of_zero_le hmem.1.1
      have haN : a < N := by have := hmem.1.2; omega
      have HF := Lib.hid hfe
      have hrow := hI.row a haN
      obtain ⟨Aa, ca, hha⟩ := own_shape hrow
      have hcell : wr.cell? ⟨w.heap.size, a, none⟩ = some (.slice Aa (outRow l a k).length ca) := by
        rw [hI.hdr.cellAt a (by omega)]
        simp [haN, hha]
      have hfr := hI.hdr.frozenAt a
      have hcnt := outRow_len l a k
      have hg0lt := (hI.hdr.lt w.heap.size rfl).2
      have HI := Lib.hid hI
      have HA := Lib.hid hha
      rw [hha] at hrow
      have i1 : (0 : Int) ≤ (a : Int) := by omega
      have i2 : (a : Int) < (N : Int) := by omega
      have hnb : ∀ g, (Value.slice Aa (outRow l a k).length ca).ownBlock = some g → g < wr.heap.size := fun g hg => (hrow.lt g hg).2
      have hne0 : some w.heap.size ≠ (Value.slice Aa (outRow l a k).length ca).ownBlock := by
        rcases HI.out.hdr.2 with ⟨hc', _⟩ | ⟨g', cap', cur, hv', _, hh, _⟩
        · cases hc'
        · injection hv' with hv'
          injection hv' with hv'
          injection hv' with hv'
          rw [← hv'] at hh
          exact Ne.symm (own_ne_blk hrow hh (by decide))
      clear hI hfe hha hmem he hc ok
      go_wp2
      go_region_law
        ((refine step_append_two _ (by rfl) (.tmp 24) (.tmp 26) 31 (by rfl) w.heap.size 3 _ 1 8 info3 Try.underlying31 rfl (by decide) (.slice Aa (outRow l a k).length ca) (outRow l a k).length (ints (outRow l a k)) (by rfl) (((hrow.alloc _).drew).alloc _) (wr.heap.size + 1) 1 [.int .i64 (k : Int)] (by rfl) (heap_at _ _ _ (by simp)) rfl (by simp [Value.oneCell']) (by omega) (by omega) (by simp; omega) ?_; intro g cap2 w2 hown2 hlt2 htwo; have hq1 : w2.cell? ⟨wr.heap.size, 0, none⟩ = some (.int .i64 a) := (two_grown htwo).cell (by simp [World.cell?_alloc_some]) (fun hc => by have := hnb _ hc.symm; simp at this); have hq2 : w2.cell? ⟨w.heap.size, a, none⟩ = some (.slice Aa (outRow l a k).length ca) := (two_grown htwo).cell (by simp [World.cell?_alloc_some, hcell]) hne0; have hq3 : w2.frozen? ⟨w.heap.size, a, none⟩ = false := grown_frozen (two_grown htwo) (by simp; omega) hne0 (by simp [frozen?_alloc_cells, hfr])))
      all_goals
        have hgr := grown_trans (grown_trans (grown_trans (World.grownBy_alloc wr _ _) (grown_drew _ _)) (World.grownBy_alloc _ _ _)) (two_grown htwo)
        have hat : (Value.slice (some ⟨g, 0, none⟩) ((outRow l a k).length + 1) cap2).ownBlock = (Value.slice Aa (outRow l a k).length ca).ownBlock ∨ ∃ g', (Value.slice (some ⟨g, 0, none⟩) ((outRow l a k).length + 1) cap2).ownBlock = some g' ∧ wr.heap.size ≤ g' := by
          rcases htwo with ⟨h1, _⟩ | ⟨h1, _⟩
          · exact .inl h1.symm
          · right
            refine ⟨g, rfl, ?_⟩
            simp at h1
            omega
        rw [← HA.out] at hgr hat
        have hI2 := HI.out.step haN HF.out hgr hown2 hat hsz
        clear hgr hat hown2 hlt2 htwo hq1 hq2 hq3 hrow hcell hfr
        go_wp2
        go_roundw
        case rel => exact ⟨k + 1, _, by omega, by go_num, hI2⟩
        case measure => simp [intOf]; omega
    · have hkl : k = l.length := by omega
      subst hkl
      go_wp2
      go_ret
      exact ⟨_, _, rfl, hI.reads, hI.below⟩
end Go.Proofs.Ytjifpjfinffamaa
