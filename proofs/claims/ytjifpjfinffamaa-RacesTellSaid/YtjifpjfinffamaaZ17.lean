/- Texts R17, laid together. -/
import Derived.Test.YtjifpjfinffamaaZ6
import Derived.Test.YtjifpjfinffamaaZ14
import Derived.Test.YtjifpjfinffamaaZ16
import Derived.StillTailTactics
import Derived.BigQuiet
section
namespace Go.Proofs.Ytjifpjfinffamaa
open Go.RowKit
structure DR (w : World) (hi gW : Nat) (l : List Ev) (bl : List Bl) (lk : List Nat) : Prop where
  lt : gW < hi
  bk : ∃ (A : Option Addr) (c : Nat), w.cell? ⟨gW, 2, none⟩ = some (.slice A (pts l bl).length c) ∧ ∀ p, p < (pts l bl).length → ∃ g, A = some ⟨g, 0, none⟩ ∧ g < hi ∧ w.cell? ⟨g, p, none⟩ = some (.int .i64 (ptAt (pts l bl) p).bk)
  of : ∃ (A : Option Addr) (c : Nat), w.cell? ⟨gW, 3, none⟩ = some (.slice A l.length c) ∧ ∀ i, i < l.length → ∃ g, A = some ⟨g, 0, none⟩ ∧ g < hi ∧ w.cell? ⟨g, i, none⟩ = some (.int .i64 (ofP l bl i))
  ah : ∃ (A : Option Addr) (c : Nat) (gr : Nat → Nat), w.cell? ⟨gW, 4, none⟩ = some (.slice A (pts l bl).length c) ∧ ∀ p, p < (pts l bl).length → (∃ g, A = some ⟨g, 0, none⟩ ∧ g < hi ∧ w.cell? ⟨g, p, none⟩ = some (.slice (some ⟨gr p, 0, none⟩) (pts l bl).length (pts l bl).length)) ∧ gr p < hi ∧
    ∀ q, q < (pts l bl).length → w.cell? ⟨gr p, q, none⟩ = some (.bool (aheadP l bl lk p q))
  bl : ∃ (A : Option Addr) (c : Nat) (hd : Nat → Value), w.cell? ⟨gW, 5, none⟩ = some (.slice A bl.length c) ∧ RB w 0 hi A bl.length bl hd
theorem DR.below {w w2 : World} {hi gW : Nat} {l : List Ev} {bl : List Bl} {lk : List Nat} (h : DR w hi gW l bl lk) (hb : Below hi w w2) : DR w2 hi gW l bl lk := by
  refine ⟨h.lt, ?_, ?_, ?_, ?_⟩
  · obtain ⟨A, c, h1, h2⟩ := h.bk
    refine ⟨A, c, (hb.cell (p := ⟨gW, 2, none⟩) h.lt).trans h1, fun p hp => ?_⟩
    obtain ⟨g, a, b, d⟩ := h2 p hp
    exact ⟨g, a, b, (hb.cell (p := ⟨g, p, none⟩) b).trans d⟩
  · obtain ⟨A, c, h1, h2⟩ := h.of
    refine ⟨A, c, (hb.cell (p := ⟨gW, 3, none⟩) h.lt).trans h1, fun p hp => ?_⟩
    obtain ⟨g, a, b, d⟩ := h2 p hp
    exact ⟨g, a, b, (hb.cell (p := ⟨g, p, none⟩) b).trans d⟩
  · obtain ⟨A, c, gr, h1, h2⟩ := h.ah
    refine ⟨A, c, gr, (hb.cell (p := ⟨gW, 4, none⟩) h.lt).trans h1, fun p hp => ?_⟩
    obtain ⟨⟨g, a, b, d⟩, e, f⟩ := h2 p hp
    exact ⟨⟨g, a, b, (hb.cell (p := ⟨g, p, none⟩) b).trans d⟩, e, fun q hq => (hb.cell (p := ⟨gr p, q, none⟩) e).trans (f q hq)⟩
  · obtain ⟨A, c, hd, h1, h2⟩ := h.bl
    exact ⟨A, c, hd, (hb.cell (p := ⟨gW, 5, none⟩) h.lt).trans h1, h2.below hb⟩
theorem DR.more {w : World} {hi hi2 gW : Nat} {l : List Ev} {bl : List Bl} {lk : List Nat} (h : DR w hi gW l bl lk) (hh : hi ≤ hi2) : DR w hi2 gW l bl lk := by
  refine ⟨Nat.lt_of_lt_of_le h.lt hh, ?_, ?_, ?_, ?_⟩
  · obtain ⟨A, c, h1, h2⟩ := h.bk
    refine ⟨A, c, h1, fun p hp => ?_⟩
    obtain ⟨g, a, b, d⟩ := h2 p hp
    exact ⟨g, a, by omega, d⟩
  · obtain ⟨A, c, h1, h2⟩ := h.of
    refine ⟨A, c, h1, fun p hp => ?_⟩
    obtain ⟨g, a, b, d⟩ := h2 p hp
    exact ⟨g, a, by omega, d⟩
  · obtain ⟨A, c, gr, h1, h2⟩ := h.ah
    refine ⟨A, c, gr, h1, fun p hp => ?_⟩
    obtain ⟨⟨g, a, b, d⟩, e, f⟩ := h2 p hp
    exact ⟨⟨g, a, by omega, d⟩, by omega, f⟩
  · obtain ⟨A, c, hd, h1, h2⟩ := h.bl
    exact ⟨A, c, hd, h1, h2.more (Nat.le_refl _) hh⟩
theorem lsP_step (L : List Pt) (x : Pt) (of : List Int) : lsF (L.map Pt.th ++ [x.th]) ((L.map fun x => (x.fi : Int)) ++ [(x.fi : Int)]) (L.map Pt.bk ++ [x.bk]) of = lsP (L ++ [x]) of := by
  unfold lsP
  rw [List.map_append, List.map_append, List.map_append]
  rfl
theorem ptsB_all {l : List Ev} {bl : List Bl} {k : Nat} (hk : k < bl.length) (ho : OverB (blAt bl k) = true) : (ptsB bl k).length < (pts l bl).length ∧ ptAt (pts l bl) (ptsB bl k).length = ptOfB bl k := pts_block hk ho
theorem pts_len0 (l : List Ev) (bl : List Bl) : (pts l bl).length ≤ bl.length + l.length := by
  unfold pts
  rw [List.length_append]
  have := ptsB_len bl bl.length
  have := ptsE_len l l.length
  omega
theorem ifif {α : Type} (c : Prop) [Decidable c] (a b d : α) : (if c then a else if c then b else d) = if c then a else d := by
  by_cases h : c
  · rw [if_pos h, if_pos h]
  · rw [if_neg h, if_neg h, if_neg h]
theorem fwP_none (A : Nat → Nat → Bool) (k p q : Nat) (h : (A p k && A k q) = false) : fwP A k p q = fwP A k p (q + 1) := by
  rw [← fwP_step A k p q]
  funext i j
  by_cases e : i = p ∧ j = q
  · obtain ⟨rfl, rfl⟩ := e
    rw [if_pos ⟨rfl, rfl⟩, fwP_at]
    unfold fw
    rw [h, Bool.or_false]
  · rw [if_neg e]
theorem fwP_yes (A : Nat → Nat → Bool) (k p q : Nat) (h1 : A p k = true) (h2 : A k q = true) : (fun i j => if i = p ∧ j = q then true else fwP A k p q i j) = fwP A k p (q + 1) := by
  rw [← fwP_step A k p q]
  unfold fw
  rw [h1, h2]
  simp
theorem ifat (M : Nat → Nat → Bool) (p q i j : Nat) (h : M p q = false) : M i j = if i = p ∧ j = q then false else M i j := by
  by_cases e : i = p ∧ j = q
  · obtain ⟨rfl, rfl⟩ := e
    rw [if_pos ⟨rfl, rfl⟩, h]
  · rw [if_neg e]
theorem lsP_at0 {L : List Pt} {of : List Int} {j : Nat} {x : Pt} (h : L[j]? = some x) : (lsP L of 0)[j]? = some x.th := by
  show (L.map Pt.th)[j]? = _
  rw [List.getElem?_map, h]
  rfl
theorem lsP_at1 {L : List Pt} {of : List Int} {j : Nat} {x : Pt} (h : L[j]? = some x) : (lsP L of 1)[j]? = some (x.fi : Int) := by
  show (L.map fun x => (x.fi : Int))[j]? = _
  rw [List.getElem?_map, h]
  rfl
theorem lsP_at2 {L : List Pt} {of : List Int} {j : Nat} {x : Pt} (h : L[j]? = some x) : (lsP L of 2)[j]? = some x.bk := by
  show (L.map Pt.bk)[j]? = _
  rw [List.getElem?_map, h]
  rfl
theorem rb_at {w : World} {lo B : Nat} {A : Option Addr} {n : Nat} {L : List Bl} {hd : Nat → Value} (h : RB w lo B A n L hd) {j : Nat} (hj : j < n) : ∃ g Ar nr cr At nt ct, (A = some ⟨g, 0, none⟩ ∧ g < B) ∧ BlC w g j (blAt L j) (.slice Ar nr cr) (.slice At nt ct) := by
  obtain ⟨g, hA, hgB, hb, ⟨Ar, cr, hr, _⟩, ⟨At, ct, ht, _⟩⟩ := h.at_ (Below.refl _ _) hj
  rw [hr, ht] at hb
  exact ⟨g, Ar, _, cr, At, _, ct, ⟨hA, hgB⟩, hb⟩
theorem rb_cell {w : World} {lo B g : Nat} {n : Nat} {L : List Bl} {hd : Nat → Value} (h : RB w lo B (some ⟨g, 0, none⟩) n L hd) {j : Nat} (hj : j < n) : ∃ Ar nr cr At nt ct, BlC w g j (blAt L j) (.slice Ar nr cr) (.slice At nt ct) := by
  obtain ⟨g', Ar, nr, cr, At, nt, ct, ⟨hA, _⟩, hb⟩ := rb_at h hj
  injection hA with hA
  injection hA with hA
  subst hA
  exact ⟨Ar, nr, cr, At, nt, ct, hb⟩
set_option linter.unusedSimpArgs false in
set_option maxRecDepth 100000 in
set_option maxHeartbeats 64000000 in
theorem refWeave_any (A : Option Addr) (cap : Nat) (l : List Ev) (w : World) (hl : l.length ≤ 1000) (hk : chk ss0 l 0 = (-1, 0)) (hc : EvR w w.heap.size A l) :
    Calls Try.prog 49 #[.slice A l.length cap] w fun e w' => ∃ gW, e = .returned (.pointer (some ⟨gW, 0, none⟩)) ∧ DR w' w'.heap.size gW l (wBl l) (wLk l) ∧ Below w.heap.size w w' := by
  have HC := Lib.hid hc
  have HF := Lib.hid (wBl_facts (show l.length ≤ 1099511627776 by omega) hk)
  have HTH := Lib.hid (chk_fm l 0 ss0 hk)
  have HKK := Lib.hid hk
  have HRBK := Lib.hid (fun W (h : EvR W W.heap.size A l) => refBlocks_any A cap l W (by omega) h)
  clear hc hk
  obtain ⟨W0, hW0⟩ : ∃ W0, W0 = w.alloc (.cells #[.slice none 0 0, .slice none 0 0, .slice none 0 0, .slice none 0 0, .slice none 0 0, .slice none 0 0] 89) := ⟨_, rfl⟩
  have hs0 : W0.heap.size = w.heap.size + 1 := by rw [hW0]; simp
  have hb0 : Below w.heap.size w W0 := by rw [hW0]; exact (Below.refl _ _).alloc (Nat.le_refl _) _
  have hblk : Blk W0 w.heap.size 89 w.heap.size 6 (fun _ => .slice none 0 0) := by
    refine Blk.of_heap (cs := #[.slice none 0 0, .slice none 0 0, .slice none 0 0, .slice none 0 0, .slice none 0 0, .slice none 0 0]) (by rw [hW0]; exact heap_at _ _ _ rfl) (Nat.le_refl _) rfl fun i hi => ?_
    have : i = 0 ∨ i = 1 ∨ i = 2 ∨ i = 3 ∨ i = 4 ∨ i = 5 := by omega
    rcases this with rfl | rfl | rfl | rfl | rfl | rfl <;> rfl
  have HW0 := Lib.hid (And.intro hs0 (And.intro hb0 hblk))
  have HE0 := Lib.hid hW0
  have HCB := Lib.hid (HRBK.out W0 ((HC.out.below hb0).more hb0.size))
  clear hW0 hs0 hb0 hblk HRBK
  go_enter Try.func49, Try.ntmps49
  go_wp2_with (go_at_call 19; refine halt_ ?_)
  refine Halt_.go ?_
  rw [← HE0.out]
  clear HE0
  refine HCB.out.mono ?_
  rintro e w1 ⟨bl, lk, Ab, cb, hdB, Al, cl, rfl, hbk, hdoc, hlen, hle, hb1⟩
  obtain ⟨rfl, rfl⟩ := doc_same HKK.out hdoc hlen
  have HBK := Lib.hid hbk
  have hb2 : Below w.heap.size w w1 := HW0.out.2.1.trans (hb1.mono (by have := HW0.out.2.1.size; omega))
  have hs1 := hb1.size
  rw [HW0.out.1] at hs1
  have hblk1 := HW0.out.2.2.below (show w.heap.size < W0.heap.size by have := HW0.out.1; omega) hb1
  have h5c := hblk1.cell (j := 5) (by omega)
  obtain ⟨W2, hW2⟩ : ∃ W2, W2 = w1.setCell ⟨w.heap.size, 5, none⟩ (.slice Ab (wBl l).length cb) := ⟨_, rfl⟩
  have hdw : DW W2 w.heap.size w.heap.size w1.heap.size (fun i => if i = 5 then .slice Ab (wBl l).length cb else .slice none 0 0) (lsF [] [] [] []) := by
    rw [hW2]
    refine ⟨hblk1.set 5 _, by omega, fun t ht => ?_, fun s t hs ht hst => ?_⟩
    · rw [if_neg (by omega)]
      have : lsF [] [] [] [] t = [] := by unfold lsF; simp
      rw [this]
      exact World.ownsRow_nil _ _ _ _
    · rw [if_neg (by omega)]
      exact .inl rfl
  have hs2 : W2.heap.size = w1.heap.size := by rw [hW2]; simp
  have HS2 := Lib.hid hs2
  have hI0 : WI W2 W2 w.heap.size w.heap.size w1.heap.size (fun i => if i = 5 then .slice Ab (wBl l).length cb else .slice none 0 0) (.slice Ab (wBl l).length cb) (lsF [] [] [] (List.replicate 0 (-1))) := ⟨hdw, by rfl, by rfl, Ex.refl _ _⟩
  rw [← hs2] at hI0
  have HI0 := Lib.hid hI0
  have hb3 : Below w.heap.size w W2 := by rw [hW2]; exact hb2.setCell (Nat.le_refl _) _
  have HB3 := Lib.hid hb3
  have hset : ∀ j, j ≠ w.heap.size → W2.heap[j]? = w1.heap[j]? := fun j hj => by rw [hW2]; exact Below.heap_setCell w1 ⟨w.heap.size, 5, none⟩ _ j hj
  have HRB : Hid (RB W2 (w.heap.size + 1) W2.heap.size Ab (wBl l).length (wBl l) hdB) := by
    rw [HS2.out]
    have h1 := hbk.hb.reads
    rw [HW0.out.1] at h1
    exact h1.keep fun p h1 h2 => World.cell?_of_block (hset p.block (by omega))
  have HLK : Hid (OwnI W2 (w.heap.size + 1) Al cl (lks (wLk l))) := by
    have h1 := hbk.lk
    rw [HW0.out.1] at h1
    exact h1.keep' fun g hg => hset g (by have := (World.ownsRow.lt h1 g hg).1; omega)
  have HEV : Hid (EvR W2 w.heap.size A l) := HC.out.below hb3
  have hlkl : (wLk l).length = (wBl l).length := wLk_len l
  have HLKL := Lib.hid hlkl
  have hnb := wBl_le l
  have HW2 := Lib.hid hW2
  have HPT := Lib.hid (wLk_part l)
  clear hbk hdoc hlen hb1 hb2 hblk1 hdw hI0 hb3 hset hW2 hs2 HBK HW0 HCB hlkl HKK
  obtain ⟨h5, h5f⟩ := h5c
  generalize hbl : wBl l = bl at *
  generalize hlk : wLk l = lk at *
  have HBLE := Lib.hid hbl
  have HLKE := Lib.hid hlk
  clear hbl hlk
  go_wp2
  rw [← HW2.out]
  clear HW2 h5 h5f
  have hws : w.heap.size < W2.heap.size := by have := HS2.out; omega
  go_loopw [6] (fun i wr => ∃ (k : Nat) (hd : Nat → Value), k ≤ l.length ∧ i = .int .i64 k ∧ Hid (WI W2 wr w.heap.size w.heap.size W2.heap.size hd (.slice Ab bl.length cb) (lsF [] [] [] (List.replicate k (-1))))) (fun i _ => l.length - (intOf i).toNat)
  case atStart => exact ⟨0, _, Nat.zero_le _, rfl, HI0⟩
  case round =>
    clear HI0
    obtain ⟨k, hd, hkn, rfl, HI⟩ := hrel
    by_cases hlt : k < l.length
    · as_aux_lemma =>
        have HLN := Lib.hid (show (lsF [] [] [] (List.replicate k (-1)) 3).length = k by unfold lsF; simp)
        obtain ⟨Aq, mq, cq, hmq, hvq, hcq, hfq, hrq⟩ := HI.out.cell (t := 3) (by omega)
        have hmb : mq ≤ 1000000 := by
          rw [hmq]
          have := HLN.out
          omega
        have HROW : Hid (wr.ownsRow W2.heap.size 3 1 (.slice Aq mq cq) mq (ints ((lsF [] [] [] (List.replicate k (-1))) 3))) := own_keep hrq fun _ _ => rfl
        have HQ := Lib.hid (And.intro hmq hvq)
        have hqs := HI.out.ex.size
        clear hmq hvq hrq
        go_wp2_with (at_builtin; refine halt_ ?_)
        refine Halt_.go ?_
        refine wl_append_two _ (by rfl) (.tmp 41) (.tmp 42) 31 (by rfl) W2.heap.size 3 _ 1 8 info3 Try.underlying31 rfl (by decide) (.slice Aq mq cq) mq (ints ((lsF [] [] [] (List.replicate k (-1))) 3)) (by rfl) (HROW.out.alloc _) wr.heap.size 1 [.int .i64 (-1)] (by rfl) (heap_at _ _ _ (by simp)) rfl (by simp [Value.oneCell']) (by omega) (by omega) (by simp; omega) ?_
        intro g1 cap1 w3 hown hlt3 htwo
        have hgx : wr.grownBy (wr.alloc (.cells #[.int .i64 (-1)] 3)) (Value.slice Aq mq cq).ownBlock := World.grownBy_alloc _ _ _
        obtain ⟨hco, hfo⟩ := HI.out.old (t := 3) (by omega) HQ.out.2 hgx htwo
        have HI1 := Lib.hid (HI.out.push rfl (t := 3) (by omega) HQ.out.1 HQ.out.2 hgx hown htwo)
        clear hown htwo hgx hcq hfq HROW HQ hlt3 hqs hmb HI
        go_wp2
        clear hco hfo
        generalize (w3.setCell ⟨w.heap.size, 3, none⟩ (.slice (some ⟨g1, 0, none⟩) (mq + 1) cap1)) = w1 at *
        have HI2 : Hid (WI W2 _ _ _ _ _ _ (lsF [] [] [] (List.replicate (k + 1) (-1)))) := HI1.out.congr (by rw [lsF3, List.replicate_succ'])
        clear HI1 HLN
        go_roundw
        case rel => exact ⟨k + 1, _, hlt, by go_num, HI2⟩
        case measure => simp [intOf]; omega
    · obtain rfl : k = l.length := by omega
      have HI5 : Hid (WI W2 wr w.heap.size w.heap.size W2.heap.size hd (.slice Ab bl.length cb) (lsP (ptsB bl 0) (ofL l (pts l bl) (List.range (ptsB bl 0).length)))) := HI.out.congr (by
        show _ = lsF [] [] [] (ofL l (pts l bl) [])
        rw [ofL_nil])
      clear HI
      generalize wr = wA at *
      go_wp2
      go_loopw [7] (fun i wr => ∃ (k : Nat) (hd : Nat → Value), k ≤ bl.length ∧ i = .int .i64 k ∧ Hid (WI W2 wr w.heap.size w.heap.size W2.heap.size hd (.slice Ab bl.length cb) (lsP (ptsB bl k) (ofL l (pts l bl) (List.range (ptsB bl k).length))))) (fun i _ => bl.length - (intOf i).toNat)
      case atStart => exact ⟨0, _, Nat.zero_le _, rfl, HI5⟩
      case round =>
        clear HI5
        obtain ⟨k, hd, hkn, rfl, HI⟩ := hrel
        by_cases hlt : k < bl.length
        · as_aux_lemma =>
            obtain ⟨gB, _, _, _, _, _, _, ⟨hA, hgB⟩, _⟩ := rb_at (HI.out.rb HRB.out (by omega)) hlt
            subst hA
            obtain ⟨Ar, nr, cr, At, nt, ct, hbc⟩ := rb_cell (HI.out.rb HRB.out (by omega)) hlt
            obtain ⟨hpF, hpL⟩ := HF.out.pl k hlt
            obtain ⟨b, hb⟩ : ∃ b, b = blAt bl k := ⟨_, rfl⟩
            rw [← hb] at hbc hpF hpL
            have HBC : Hid (∀ W, WI W2 W w.heap.size w.heap.size W2.heap.size hd (.slice (some ⟨gB, 0, none⟩) bl.length cb) (lsP (ptsB bl k) (ofL l (pts l bl) (List.range (ptsB bl k).length))) → True) := fun _ _ => trivial
            clear HBC
            have HBB := Lib.hid hb
            obtain ⟨c0, c1, c2, c3, c4, c5, c6, c7, c8⟩ := hbc
            have i1 : (0 : Int) ≤ (k : Int) := by omega
            have i2 : (k : Int) < (bl.length : Int) := by omega
            clear hb
            go_wp2_with (go_at_call 64; refine halt_ ?_)
            refine Halt_.go ?_
            refine (over15_any b (.slice Ar nr cr) (.slice At nt ct) _).mono ?_
            rintro e w4 ⟨rfl, hb4⟩
            have HI4 := Lib.hid (HI.out.below hb4)
            clear HI hb4 c0 c1 c2 c3 c4 c5 c6 c7 c8
            by_cases ho : OverB b = true
            · as_aux_lemma =>
                rw [ho]
                have hob : OverB (blAt bl k) = true := by rw [← HBB.out]; exact ho
                obtain ⟨hpN, hpt⟩ := ptsB_all (l := l) hlt hob
                have hpk := ptsB_len bl k
                have hps : ptsB bl (k + 1) = ptsB bl k ++ [ptOfB bl k] := by rw [ptsB_succ, if_pos hob]
                have HPS := Lib.hid hps
                obtain ⟨p, hp⟩ : ∃ p, p = (ptsB bl k).length := ⟨_, rfl⟩
                obtain ⟨P, hP⟩ : ∃ P, P = pts l bl := ⟨_, rfl⟩
                rw [← hP] at hpN hpt HI4
                rw [← hp] at hpN hpt hpk HI4
                have HFI := Lib.hid (show (ptAt P p).fi = b.first by rw [hpt, HBB.out]; rfl)
                have HLA := Lib.hid (show (ptAt P p).la = b.last by rw [hpt, HBB.out]; rfl)
                have HTT := Lib.hid (show (ptAt P p).th = b.th by rw [hpt, HBB.out]; rfl)
                have HPP := Lib.hid hP
                have HPQ := Lib.hid hp
                have HST : Hid (WI W2 w4 w.heap.size w.heap.size W2.heap.size hd (.slice (some ⟨gB, 0, none⟩) bl.length cb) (lsP (ptsB bl k) (ofU l P (List.range p) p b.first))) := HI4.out.congr (by rw [← HFI.out, ofU_start])
                obtain ⟨Ar, nr, cr, At, nt, ct, hbc⟩ := rb_cell (HST.out.rb HRB.out (by omega)) hlt
                rw [← HBB.out] at hbc
                have c2 := hbc.c2
                clear hob hpt hps hp hP HI4 ho hbc
                go_wp2
                clear c2
                go_loopw [9] (fun i wr => ∃ j : Nat, b.first ≤ j ∧ j ≤ b.last + 1 ∧ i = .int .i64 j ∧ Hid (WI W2 wr w.heap.size w.heap.size W2.heap.size hd (.slice (some ⟨gB, 0, none⟩) bl.length cb) (lsP (ptsB bl k) (ofU l P (List.range p) p j)))) (fun i _ => b.last + 1 - (intOf i).toNat)
                case atStart => exact ⟨b.first, Nat.le_refl _, by omega, rfl, HST⟩
                case round =>
                  clear HST
                  obtain ⟨j, hj1, hj2, rfl, HI⟩ := hrel
                  obtain ⟨Ar, nr, cr, At, nt, ct, hbc⟩ := rb_cell (HI.out.rb HRB.out (by omega)) hlt
                  rw [← HBB.out] at hbc
                  have c0 := hbc.c0
                  have c3 := hbc.c3
                  clear hbc
                  by_cases hj : j ≤ b.last
                  · as_aux_lemma =>
                      obtain ⟨eb, eo, e, hAe, heb, he, hwd, e0, e1, e2, e3, e4, e5⟩ := (HI.out.ev HEV.out (by omega)).at_ (Below.refl _ _) (k := j) (by omega)
                      subst hAe
                      have HE := Lib.hid he.out
                      obtain ⟨A3, q3, hv3, h3⟩ := HI.out.dw.at_ (t := 3) (by omega)
                      have hl3 : (lsP (ptsB bl k) (ofU l P (List.range p) p j) 3).length = l.length := ofU_len _ _ _ _ _
                      obtain ⟨x3, hx3⟩ : ∃ x, (lsP (ptsB bl k) (ofU l P (List.range p) p j) 3)[j]? = some x := ⟨_, List.getElem?_eq_getElem (by rw [hl3]; omega)⟩
                      obtain ⟨g3, hA3, _, _, hc3, hf3⟩ := h3 j x3 hx3
                      subst hA3
                      rw [hl3] at hv3
                      obtain ⟨A0, m0, q0, hm0, hv0, hc0, _, _⟩ := HI.out.cell (t := 0) (by omega)
                      have hl0 : (lsP (ptsB bl k) (ofU l P (List.range p) p j) 0).length = p := by
                        rw [HPQ.out]
                        show (List.map _ _).length = _
                        rw [List.length_map]
                      rw [hl0] at hm0
                      subst hm0
                      have hw3 := HI.out.dw.c (t := 3) (by omega)
                      rw [hv3] at hw3
                      have hw30 := hw3.1
                      have HV3 := Lib.hid hv3
                      obtain ⟨t, kd, ad, x, ow, er⟩ := e
                      simp only at e0
                      have i3 : (0 : Int) ≤ (j : Int) := by omega
                      have i4 : (j : Int) < (l.length : Int) := by omega
                      have i5 : (j : Int) ≤ (b.last : Int) := by omega
                      clear h3 hl3 hx3 hv3 hv0 hl0 hw3 he hwd e1 e2 e3 e4 e5
                      by_cases htT : t = b.th
                      · subst htT
                        have HHE : HasE l P m0 j := by
                          refine ⟨by rw [HFI.out]; exact hj1, by rw [HLA.out]; exact hj, ?_⟩
                          rw [HTT.out]
                          simp [List.getD, HE.out]
                        have HL2 := (((HI.out.drewN 1).drew).set3 rfl HV3.out j (m0 : Int))
                        clear HL2
                        go_wp2
                        go_quiet (fail)
                        have HL2 := (((HI.out.drewN nq).drew).set3 rfl HV3.out j (m0 : Int)).congr (show _ = lsP (ptsB bl k) (ofU l P (List.range m0) m0 (j + 1)) by
                          rw [← ofU_hit HHE]
                          exact lsF3s _ _ _ _ _ _)
                        have HL3 := Lib.hid HL2
                        have g1 : (wr.drewN nq).cell? ⟨g3, j, none⟩ = some (.int .i64 x3) := hc3
                        have g2 : (wr.drewN nq).frozen? ⟨g3, j, none⟩ = false := hf3
                        have g3' : (wr.drewN nq).cell? ⟨w.heap.size, 3, none⟩ = some (.slice (some ⟨g3, 0, none⟩) l.length q3) := hw30
                        have g4 : (wr.drewN nq).cell? ⟨w.heap.size, 0, none⟩ = some (.slice A0 m0 q0) := hc0
                        clear HL2 HI hc3 hf3 hw30 hc0 c0 c3 e0 HHE
                        generalize wr.drewN nq = w6 at *
                        go_wp2
                        go_still_tail 10, (by kernel_rfl)
                        change wpList _ _ _ _ _ w6.drew
                        go_wp2
                        go_roundw
                        case rel => exact ⟨j + 1, by omega, by omega, by go_num, HL3⟩
                        case measure => simp [intOf]; omega
                      · have k1 : (t == b.th) = false := by simpa using htT
                        have HHE : ¬ HasE l P m0 j := by
                          rintro ⟨_, _, h⟩
                          rw [HTT.out] at h
                          apply htT
                          simpa [List.getD, HE.out] using h
                        have HL2 := HI.out
                        rw [ofU_miss HHE] at HL2
                        have HL3 := Lib.hid HL2
                        clear HL2 HI HHE htT
                        go_wp2
                        go_quiet (fail)
                        go_wp2
                        go_roundw
                        case rel => exact ⟨j + 1, by omega, by omega, by go_num, HL3.out.drewN nq⟩
                        case measure => simp [intOf]; omega
                  · obtain rfl : j = b.last + 1 := by omega
                    have HI5 : Hid (WI W2 wr w.heap.size w.heap.size W2.heap.size hd (.slice (some ⟨gB, 0, none⟩) bl.length cb) (lsF ((ptsB bl k).map Pt.th) ((ptsB bl k).map fun x => (x.fi : Int)) ((ptsB bl k).map Pt.bk) (ofL l P (List.range (p + 1))))) := HI.out.congr (by
                      have h1 := ofU_end (s := List.range p) HF.out (fun q hq => by have := List.mem_range.1 hq; rw [← HPP.out]; omega) (p := p) (by rw [← HPP.out]; exact hpN)
                      rw [← HPP.out, HLA.out, ← List.range_succ] at h1
                      rw [h1]
                      rfl)
                    clear HI c0 c3
                    generalize hLA : (ptsB bl k).map Pt.th = LA at *
                    generalize hLB : ((ptsB bl k).map fun x => (x.fi : Int)) = LB at *
                    generalize hLC : (ptsB bl k).map Pt.bk = LC at *
                    generalize hLD : ofL l P (List.range (p + 1)) = LD at *
                    have HLN := Lib.hid (show (LA.length = p ∧ LB.length = p ∧ LC.length = p) ∧ p ≤ k from ⟨by rw [← hLA, ← hLB, ← hLC, HPQ.out]; simp, hpk⟩)
                    have HLL := Lib.hid (And.intro hLA (And.intro hLB (And.intro hLC hLD)))
                    clear hLA hLB hLC hLD
                    obtain ⟨Ar, nr, cr, At, nt, ct, hbc⟩ := rb_cell (HI5.out.rb HRB.out (by omega)) hlt
                    rw [← HBB.out] at hbc
                    have c0 := hbc.c0
                    have c2 := hbc.c2
                    have i5 : ¬ ((b.last : Int) + 1 ≤ (b.last : Int)) := by omega
                    have c3 := hbc.c3
                    clear hbc
                    go_wp2
                    clear c3 i5
                    obtain ⟨Aq, mq, cq, hmq, hvq, hcq, hfq, hrq⟩ := HI5.out.cell (t := 0) (by omega)
                    have hmb : mq ≤ 1000000 := by
                      rw [hmq]
                      have := HLN.out
                      (show LA.length ≤ _; omega)
                    have HROW : Hid (wr.drew.ownsRow W2.heap.size 3 1 (.slice Aq mq cq) mq (ints ((lsF LA LB LC LD) 0))) := own_keep hrq fun _ _ => rfl
                    have HQ := Lib.hid (And.intro hmq hvq)
                    have hqs := HI5.out.ex.size
                    have hfar : ∀ j, (Value.slice Aq mq cq).ownBlock = some j → W2.heap.size ≤ j := fun j hj => (World.ownsRow.lt hrq j hj).1
                    have HS : Hid (∀ W : World, Ex wr W (fun j => (Value.slice Aq mq cq).ownBlock = some j) → ((W.cell? ⟨w.heap.size, 0, none⟩ = some (.slice Aq mq cq) ∧ W.frozen? ⟨w.heap.size, 0, none⟩ = false ∧ W.cell? ⟨gB, k * 9, none⟩ = some (.int .i64 b.th)) ∧ Ex wr W (fun j => (Value.slice Aq mq cq).ownBlock = some j))) := fun W h => by
                      have hn : ∀ j, j < W2.heap.size → ¬ (Value.slice Aq mq cq).ownBlock = some j := fun j hj e => by have := hfar j e; omega
                      exact ⟨⟨(h.cell (p := ⟨w.heap.size, 0, none⟩) (by show w.heap.size < _; omega) (hn _ hws)).trans hcq, (World.frozen?_of_block (a := ⟨w.heap.size, 0, none⟩) (h.block w.heap.size (by omega) (hn _ hws))).trans hfq, (h.cell (p := ⟨gB, k * 9, none⟩) (by show gB < _; omega) (hn _ hgB)).trans c0⟩, h⟩
                    have hSt := HS.out wr.drew (Ex.refl wr _).drew
                    clear hmq hvq hrq hfar hcq hfq
                    go_wp2
                    refine wp_region_C (S := fun W => (W.cell? ⟨w.heap.size, 0, none⟩ = some (.slice Aq mq cq) ∧ W.frozen? ⟨w.heap.size, 0, none⟩ = false ∧ W.cell? ⟨gB, k * 9, none⟩ = some (.int .i64 b.th)) ∧ Ex wr W (fun j => (Value.slice Aq mq cq).ownBlock = some j)) 14 (by kernel_rfl) hSt (fun hHeld => ?_)
                    clear hSt
                    refine wpAnyC_take [14] (i := 0) (oi := _) (v := ?v18x1_0) rfl (by kernel_rfl) (by kernel_rfl) (by kernel_rfl) (by kernel_rfl) (fun _ _ _ h => h) (Or.inl ⟨by rfl, ?hy18x1_0⟩) (by assumption) ?rest18x1_0
                    case hy18x1_0 => ((intro w hSw; (try dsimp only at hSw); go_simp); (try with_reducible rfl))
                    (try simp only [Act.put, Array.getInternal_eq_getElem, List.getElem_toArray, List.getElem_cons_zero, List.getElem_cons_succ, List.setIfInBounds_toArray, List.set_cons_zero, List.set_cons_succ])
                    refine wpAnyC_take [14] (i := 1) (oi := _) (v := ?v18x1_1) rfl (by kernel_rfl) (by kernel_rfl) (by kernel_rfl) (by kernel_rfl) (fun _ _ _ h => h) (Or.inl ⟨by rfl, ?hy18x1_1⟩) (by assumption) ?rest18x1_1
                    case hy18x1_1 => ((intro w hSw; (try dsimp only at hSw); go_simp); (try with_reducible rfl))
                    (try simp only [Act.put, Array.getInternal_eq_getElem, List.getElem_toArray, List.getElem_cons_zero, List.getElem_cons_succ, List.setIfInBounds_toArray, List.set_cons_zero, List.set_cons_succ])
                    refine wpAnyC_take [14] (i := 2) (oi := _) (v := ?v18x1_2) rfl (by kernel_rfl) (by kernel_rfl) (by kernel_rfl) (by kernel_rfl) (fun _ _ _ h => h) (Or.inl ⟨by rfl, ?hy18x1_2⟩) (by assumption) ?rest18x1_2
                    case hy18x1_2 => ((intro w hSw; (try dsimp only at hSw); go_simp); (try with_reducible rfl))
                    (try simp only [Act.put, Array.getInternal_eq_getElem, List.getElem_toArray, List.getElem_cons_zero, List.getElem_cons_succ, List.setIfInBounds_toArray, List.set_cons_zero, List.set_cons_succ])
                    refine wpAnyC_take [14] (i := 3) (oi := _) (v := ?v18x1_3) rfl (by kernel_rfl) (by kernel_rfl) (by kernel_rfl) (by kernel_rfl) (fun _ _ _ h => h) (Or.inl ⟨by rfl, ?hy18x1_3⟩) (by assumption) ?rest18x1_3
                    case hy18x1_3 => ((intro w hSw; (try dsimp only at hSw); go_simp); (try with_reducible rfl))
                    (try simp only [Act.put, Array.getInternal_eq_getElem, List.getElem_toArray, List.getElem_cons_zero, List.getElem_cons_succ, List.setIfInBounds_toArray, List.set_cons_zero, List.set_cons_succ])
                    refine wpAnyC_take [14] (i := 4) (oi := _) (v := ?v18x1_4) rfl (by kernel_rfl) (by kernel_rfl) (by kernel_rfl) (by kernel_rfl) (fun _ _ _ h => h) (Or.inl ⟨by rfl, ?hy18x1_4⟩) (by assumption) ?rest18x1_4
                    case hy18x1_4 => ((intro w hSw; (try dsimp only at hSw); go_simp); (try with_reducible rfl))
                    (try simp only [Act.put, Array.getInternal_eq_getElem, List.getElem_toArray, List.getElem_cons_zero, List.getElem_cons_succ, List.setIfInBounds_toArray, List.set_cons_zero, List.set_cons_succ])
                    refine wpAnyC_take [14] (i := 5) (oi := _) (v := ?v18x1_5) rfl (by kernel_rfl) (by kernel_rfl) (by kernel_rfl) (by kernel_rfl) (fun _ _ _ h => h) (Or.inl ⟨by rfl, ?hy18x1_5⟩) (by assumption) ?rest18x1_5
                    case hy18x1_5 => ((intro w hSw; (try dsimp only at hSw); go_simp); (try with_reducible rfl))
                    (try simp only [Act.put, Array.getInternal_eq_getElem, List.getElem_toArray, List.getElem_cons_zero, List.getElem_cons_succ, List.setIfInBounds_toArray, List.set_cons_zero, List.set_cons_succ])
                    refine wpAnyC_take [14] (i := 6) (oi := _) (v := ?v18x1_6) rfl (by kernel_rfl) (by kernel_rfl) (by kernel_rfl) (by kernel_rfl) (fun _ _ _ h => h) (Or.inl ⟨by rfl, ?hy18x1_6⟩) (by assumption) ?rest18x1_6
                    case hy18x1_6 => ((intro w hSw; (try dsimp only at hSw); go_simp); (try with_reducible rfl))
                    (try simp only [Act.put, Array.getInternal_eq_getElem, List.getElem_toArray, List.getElem_cons_zero, List.getElem_cons_succ, List.setIfInBounds_toArray, List.set_cons_zero, List.set_cons_succ])
                    refine wpAnyC_take [14] (i := 7) (oi := _) (v := ?v18x1_7) rfl (by kernel_rfl) (by kernel_rfl) (by kernel_rfl) (by kernel_rfl) (fun _ _ _ h => h) (Or.inl ⟨by rfl, ?hy18x1_7⟩) (by assumption) ?rest18x1_7
                    case hy18x1_7 => ((intro w hSw; (try dsimp only at hSw); go_simp); (try with_reducible rfl))
                    (try simp only [Act.put, Array.getInternal_eq_getElem, List.getElem_toArray, List.getElem_cons_zero, List.getElem_cons_succ, List.setIfInBounds_toArray, List.set_cons_zero, List.set_cons_succ])
                    refine wpAnyC_take [14] (i := 8) (oi := _) (v := ?v18x1_8) rfl (by kernel_rfl) (by kernel_rfl) (by kernel_rfl) (by kernel_rfl) (fun _ _ _ h => h) (Or.inl ⟨by rfl, ?hy18x1_8⟩) (by assumption) ?rest18x1_8
                    case hy18x1_8 => ((intro w hSw; (try dsimp only at hSw); go_simp); (try with_reducible rfl))
                    (try simp only [Act.put, Array.getInternal_eq_getElem, List.getElem_toArray, List.getElem_cons_zero, List.getElem_cons_succ, List.setIfInBounds_toArray, List.set_cons_zero, List.set_cons_succ])
                    refine wpAnyC_take [14] (i := 9) (oi := _) (v := ?v18x1_9) rfl (by kernel_rfl) (by kernel_rfl) (by kernel_rfl) (by kernel_rfl) (fun _ _ _ h => h) (Or.inl ⟨by rfl, ?hy18x1_9⟩) (by assumption) ?rest18x1_9
                    case hy18x1_9 => ((intro w hSw; (try dsimp only at hSw); go_simp); (try with_reducible rfl))
                    (try simp only [Act.put, Array.getInternal_eq_getElem, List.getElem_toArray, List.getElem_cons_zero, List.getElem_cons_succ, List.setIfInBounds_toArray, List.set_cons_zero, List.set_cons_succ])
                    refine wpAnyC_one (i := 10) (o := _) (by kernel_rfl) rfl (fun K hK => ?_)
                    go_simp
                    refine hK.out _ _ (HS.out _ (hHeld.2.alloc _)) (fun hHeldN => ?_)
                    clear hK K hHeld
                    have hHeld := hHeldN
                    clear hHeldN
                    (try simp only [Act.put, Array.getInternal_eq_getElem, List.getElem_toArray, List.getElem_cons_zero, List.getElem_cons_succ, List.setIfInBounds_toArray, List.set_cons_zero, List.set_cons_succ])
                    refine wpAnyC_one (i := 11) (o := _) (by kernel_rfl) rfl (fun K hK => ?_)
                    refine step_append_two _ (by rfl) (.tmp 99) (.tmp 105) 31 (by rfl) W2.heap.size 3 _ 1 8 info3 Try.underlying31 rfl (by decide) (.slice Aq mq cq) mq (ints ((lsF LA LB LC LD) 0)) (by rfl) (HROW.out.alloc _) wr.heap.size 1 [.int .i64 b.th] (by rfl) (heap_at _ _ _ (by simp)) rfl (by simp [Value.oneCell']) (by omega) (by omega) (by simp; omega) ?_
                    intro g1 cap1 w3 hown hlt3 htwo
                    have hgx : wr.grownBy (wr.drew.alloc (.cells #[.int .i64 b.th] 3)) (Value.slice Aq mq cq).ownBlock := grown_trans (grown_drew _ _) (World.grownBy_alloc _ _ _)
                    obtain ⟨hco, hfo⟩ := HI5.out.old (t := 0) (by omega) HQ.out.2 hgx htwo
                    have HI1 := Lib.hid (HI5.out.push rfl (t := 0) (by omega) HQ.out.1 HQ.out.2 hgx hown htwo)
                    have hgr := grown_trans hgx (two_grown htwo)
                    refine hK.out _ _ (HS.out _ ((Ex.refl wr _).grown hgr (fun _ h _ => h))) (fun hHeldN => ?_)
                    clear hK K hHeld
                    have hHeld := hHeldN
                    clear hHeldN
                    (try simp only [Act.put, Array.getInternal_eq_getElem, List.getElem_toArray, List.getElem_cons_zero, List.getElem_cons_succ, List.setIfInBounds_toArray, List.set_cons_zero, List.set_cons_succ])
                    refine wpAnyC_take [14, 13] (i := 12) (oi := _) (v := ?v18x1_12) rfl (by kernel_rfl) (by kernel_rfl) (by kernel_rfl) (by kernel_rfl) (fun _ _ _ h => h) (Or.inl ⟨by rfl, ?hy18x1_12⟩) (by assumption) ?rest18x1_12
                    case hy18x1_12 => ((intro w hSw; (try dsimp only at hSw); go_simp); (try with_reducible rfl))
                    (try simp only [Act.put, Array.getInternal_eq_getElem, List.getElem_toArray, List.getElem_cons_zero, List.getElem_cons_succ, List.setIfInBounds_toArray, List.set_cons_zero, List.set_cons_succ])
                    refine wpAnyC_take [14] (i := 13) (oi := _) (v := ?v18x1_13) rfl (by kernel_rfl) (by kernel_rfl) (by kernel_rfl) (by kernel_rfl) (fun _ _ _ h => h) (Or.inl ⟨by rfl, ?hy18x1_13⟩) (by assumption) ?rest18x1_13
                    case hy18x1_13 => ((intro w hSw; (try dsimp only at hSw); go_simp); (try with_reducible rfl))
                    (try simp only [Act.put, Array.getInternal_eq_getElem, List.getElem_toArray, List.getElem_cons_zero, List.getElem_cons_succ, List.setIfInBounds_toArray, List.set_cons_zero, List.set_cons_succ])
                    refine wpAnyC_last (o := _) (by kernel_rfl) rfl (fun K hK => ?_)
                    go_simp
                    refine hK.out _ _ ?_
                    clear hK K
                    refine wpAnyC_done (by kernel_rfl) ?_ _
                    clear hown htwo hgx hgr HROW HQ hlt3 hqs hmb HI5 HS
                    go_wp2
                    clear hco hfo
                    generalize (w3.setCell ⟨w.heap.size, 0, none⟩ (.slice (some ⟨g1, 0, none⟩) (mq + 1) cap1)) = w1 at *
                    have HI6 := Lib.hid (HI1.out.congr (lsF0 _ _ _ _ _))
                    clear HI1 c0 c2
                    obtain ⟨Ar, nr, cr, At, nt, ct, hbc⟩ := rb_cell (HI6.out.rb HRB.out (by omega)) hlt
                    rw [← HBB.out] at hbc
                    have c2' := hbc.c2
                    clear hbc
                    obtain ⟨Aq, mq, cq, hmq, hvq, hcq, hfq, hrq⟩ := HI6.out.cell (t := 1) (by omega)
                    have hmb : mq ≤ 1000000 := by
                      rw [hmq]
                      have := HLN.out
                      (show LB.length ≤ _; omega)
                    have HROW : Hid (w1.drew.ownsRow W2.heap.size 3 1 (.slice Aq mq cq) mq (ints ((lsF (LA ++ [b.th]) LB LC LD) 1))) := own_keep hrq fun _ _ => rfl
                    have HQ := Lib.hid (And.intro hmq hvq)
                    have hqs := HI6.out.ex.size
                    have hfar : ∀ j, (Value.slice Aq mq cq).ownBlock = some j → W2.heap.size ≤ j := fun j hj => (World.ownsRow.lt hrq j hj).1
                    have HS : Hid (∀ W : World, Ex w1 W (fun j => (Value.slice Aq mq cq).ownBlock = some j) → ((W.cell? ⟨w.heap.size, 1, none⟩ = some (.slice Aq mq cq) ∧ W.frozen? ⟨w.heap.size, 1, none⟩ = false ∧ W.cell? ⟨gB, k * 9 + 2, none⟩ = some (.int .i64 (b.first : Int))) ∧ Ex w1 W (fun j => (Value.slice Aq mq cq).ownBlock = some j))) := fun W h => by
                      have hn : ∀ j, j < W2.heap.size → ¬ (Value.slice Aq mq cq).ownBlock = some j := fun j hj e => by have := hfar j e; omega
                      exact ⟨⟨(h.cell (p := ⟨w.heap.size, 1, none⟩) (by show w.heap.size < _; omega) (hn _ hws)).trans hcq, (World.frozen?_of_block (a := ⟨w.heap.size, 1, none⟩) (h.block w.heap.size (by omega) (hn _ hws))).trans hfq, (h.cell (p := ⟨gB, k * 9 + 2, none⟩) (by show gB < _; omega) (hn _ hgB)).trans c2'⟩, h⟩
                    have hSt := HS.out w1.drew (Ex.refl w1 _).drew
                    clear hmq hvq hrq hfar hcq hfq
                    go_wp2
                    refine wp_region_C (S := fun W => (W.cell? ⟨w.heap.size, 1, none⟩ = some (.slice Aq mq cq) ∧ W.frozen? ⟨w.heap.size, 1, none⟩ = false ∧ W.cell? ⟨gB, k * 9 + 2, none⟩ = some (.int .i64 (b.first : Int))) ∧ Ex w1 W (fun j => (Value.slice Aq mq cq).ownBlock = some j)) 14 (by kernel_rfl) hSt (fun hHeld => ?_)
                    clear hSt
                    refine wpAnyC_take [14] (i := 0) (oi := _) (v := ?v19x2_0) rfl (by kernel_rfl) (by kernel_rfl) (by kernel_rfl) (by kernel_rfl) (fun _ _ _ h => h) (Or.inl ⟨by rfl, ?hy19x2_0⟩) (by assumption) ?rest19x2_0
                    case hy19x2_0 => ((intro w hSw; (try dsimp only at hSw); go_simp); (try with_reducible rfl))
                    (try simp only [Act.put, Array.getInternal_eq_getElem, List.getElem_toArray, List.getElem_cons_zero, List.getElem_cons_succ, List.setIfInBounds_toArray, List.set_cons_zero, List.set_cons_succ])
                    refine wpAnyC_take [14] (i := 1) (oi := _) (v := ?v19x2_1) rfl (by kernel_rfl) (by kernel_rfl) (by kernel_rfl) (by kernel_rfl) (fun _ _ _ h => h) (Or.inl ⟨by rfl, ?hy19x2_1⟩) (by assumption) ?rest19x2_1
                    case hy19x2_1 => ((intro w hSw; (try dsimp only at hSw); go_simp); (try with_reducible rfl))
                    (try simp only [Act.put, Array.getInternal_eq_getElem, List.getElem_toArray, List.getElem_cons_zero, List.getElem_cons_succ, List.setIfInBounds_toArray, List.set_cons_zero, List.set_cons_succ])
                    refine wpAnyC_take [14] (i := 2) (oi := _) (v := ?v19x2_2) rfl (by kernel_rfl) (by kernel_rfl) (by kernel_rfl) (by kernel_rfl) (fun _ _ _ h => h) (Or.inl ⟨by rfl, ?hy19x2_2⟩) (by assumption) ?rest19x2_2
                    case hy19x2_2 => ((intro w hSw; (try dsimp only at hSw); go_simp); (try with_reducible rfl))
                    (try simp only [Act.put, Array.getInternal_eq_getElem, List.getElem_toArray, List.getElem_cons_zero, List.getElem_cons_succ, List.setIfInBounds_toArray, List.set_cons_zero, List.set_cons_succ])
                    refine wpAnyC_take [14] (i := 3) (oi := _) (v := ?v19x2_3) rfl (by kernel_rfl) (by kernel_rfl) (by kernel_rfl) (by kernel_rfl) (fun _ _ _ h => h) (Or.inl ⟨by rfl, ?hy19x2_3⟩) (by assumption) ?rest19x2_3
                    case hy19x2_3 => ((intro w hSw; (try dsimp only at hSw); go_simp); (try with_reducible rfl))
                    (try simp only [Act.put, Array.getInternal_eq_getElem, List.getElem_toArray, List.getElem_cons_zero, List.getElem_cons_succ, List.setIfInBounds_toArray, List.set_cons_zero, List.set_cons_succ])
                    refine wpAnyC_take [14] (i := 4) (oi := _) (v := ?v19x2_4) rfl (by kernel_rfl) (by kernel_rfl) (by kernel_rfl) (by kernel_rfl) (fun _ _ _ h => h) (Or.inl ⟨by rfl, ?hy19x2_4⟩) (by assumption) ?rest19x2_4
                    case hy19x2_4 => ((intro w hSw; (try dsimp only at hSw); go_simp); (try with_reducible rfl))
                    (try simp only [Act.put, Array.getInternal_eq_getElem, List.getElem_toArray, List.getElem_cons_zero, List.getElem_cons_succ, List.setIfInBounds_toArray, List.set_cons_zero, List.set_cons_succ])
                    refine wpAnyC_take [14] (i := 5) (oi := _) (v := ?v19x2_5) rfl (by kernel_rfl) (by kernel_rfl) (by kernel_rfl) (by kernel_rfl) (fun _ _ _ h => h) (Or.inl ⟨by rfl, ?hy19x2_5⟩) (by assumption) ?rest19x2_5
                    case hy19x2_5 => ((intro w hSw; (try dsimp only at hSw); go_simp); (try with_reducible rfl))
                    (try simp only [Act.put, Array.getInternal_eq_getElem, List.getElem_toArray, List.getElem_cons_zero, List.getElem_cons_succ, List.setIfInBounds_toArray, List.set_cons_zero, List.set_cons_succ])
                    refine wpAnyC_take [14] (i := 6) (oi := _) (v := ?v19x2_6) rfl (by kernel_rfl) (by kernel_rfl) (by kernel_rfl) (by kernel_rfl) (fun _ _ _ h => h) (Or.inl ⟨by rfl, ?hy19x2_6⟩) (by assumption) ?rest19x2_6
                    case hy19x2_6 => ((intro w hSw; (try dsimp only at hSw); go_simp); (try with_reducible rfl))
                    (try simp only [Act.put, Array.getInternal_eq_getElem, List.getElem_toArray, List.getElem_cons_zero, List.getElem_cons_succ, List.setIfInBounds_toArray, List.set_cons_zero, List.set_cons_succ])
                    refine wpAnyC_take [14] (i := 7) (oi := _) (v := ?v19x2_7) rfl (by kernel_rfl) (by kernel_rfl) (by kernel_rfl) (by kernel_rfl) (fun _ _ _ h => h) (Or.inl ⟨by rfl, ?hy19x2_7⟩) (by assumption) ?rest19x2_7
                    case hy19x2_7 => ((intro w hSw; (try dsimp only at hSw); go_simp); (try with_reducible rfl))
                    (try simp only [Act.put, Array.getInternal_eq_getElem, List.getElem_toArray, List.getElem_cons_zero, List.getElem_cons_succ, List.setIfInBounds_toArray, List.set_cons_zero, List.set_cons_succ])
                    refine wpAnyC_take [14] (i := 8) (oi := _) (v := ?v19x2_8) rfl (by kernel_rfl) (by kernel_rfl) (by kernel_rfl) (by kernel_rfl) (fun _ _ _ h => h) (Or.inl ⟨by rfl, ?hy19x2_8⟩) (by assumption) ?rest19x2_8
                    case hy19x2_8 => ((intro w hSw; (try dsimp only at hSw); go_simp); (try with_reducible rfl))
                    (try simp only [Act.put, Array.getInternal_eq_getElem, List.getElem_toArray, List.getElem_cons_zero, List.getElem_cons_succ, List.setIfInBounds_toArray, List.set_cons_zero, List.set_cons_succ])
                    refine wpAnyC_take [14] (i := 9) (oi := _) (v := ?v19x2_9) rfl (by kernel_rfl) (by kernel_rfl) (by kernel_rfl) (by kernel_rfl) (fun _ _ _ h => h) (Or.inl ⟨by rfl, ?hy19x2_9⟩) (by assumption) ?rest19x2_9
                    case hy19x2_9 => ((intro w hSw; (try dsimp only at hSw); go_simp); (try with_reducible rfl))
                    (try simp only [Act.put, Array.getInternal_eq_getElem, List.getElem_toArray, List.getElem_cons_zero, List.getElem_cons_succ, List.setIfInBounds_toArray, List.set_cons_zero, List.set_cons_succ])
                    refine wpAnyC_one (i := 10) (o := _) (by kernel_rfl) rfl (fun K hK => ?_)
                    go_simp
                    refine hK.out _ _ (HS.out _ (hHeld.2.alloc _)) (fun hHeldN => ?_)
                    clear hK K hHeld
                    have hHeld := hHeldN
                    clear hHeldN
                    (try simp only [Act.put, Array.getInternal_eq_getElem, List.getElem_toArray, List.getElem_cons_zero, List.getElem_cons_succ, List.setIfInBounds_toArray, List.set_cons_zero, List.set_cons_succ])
                    refine wpAnyC_one (i := 11) (o := _) (by kernel_rfl) rfl (fun K hK => ?_)
                    refine step_append_two _ (by rfl) (.tmp 113) (.tmp 119) 31 (by rfl) W2.heap.size 3 _ 1 8 info3 Try.underlying31 rfl (by decide) (.slice Aq mq cq) mq (ints ((lsF (LA ++ [b.th]) LB LC LD) 1)) (by rfl) (HROW.out.alloc _) w1.heap.size 1 [.int .i64 (b.first : Int)] (by rfl) (heap_at _ _ _ (by simp)) rfl (by simp [Value.oneCell']) (by omega) (by omega) (by simp; omega) ?_
                    intro g2 cap2 w3 hown hlt3 htwo
                    have hgx : w1.grownBy (w1.drew.alloc (.cells #[.int .i64 (b.first : Int)] 3)) (Value.slice Aq mq cq).ownBlock := grown_trans (grown_drew _ _) (World.grownBy_alloc _ _ _)
                    obtain ⟨hco, hfo⟩ := HI6.out.old (t := 1) (by omega) HQ.out.2 hgx htwo
                    have HI2 := Lib.hid (HI6.out.push rfl (t := 1) (by omega) HQ.out.1 HQ.out.2 hgx hown htwo)
                    have hgr := grown_trans hgx (two_grown htwo)
                    refine hK.out _ _ (HS.out _ ((Ex.refl w1 _).grown hgr (fun _ h _ => h))) (fun hHeldN => ?_)
                    clear hK K hHeld
                    have hHeld := hHeldN
                    clear hHeldN
                    (try simp only [Act.put, Array.getInternal_eq_getElem, List.getElem_toArray, List.getElem_cons_zero, List.getElem_cons_succ, List.setIfInBounds_toArray, List.set_cons_zero, List.set_cons_succ])
                    refine wpAnyC_take [14, 13] (i := 12) (oi := _) (v := ?v19x2_12) rfl (by kernel_rfl) (by kernel_rfl) (by kernel_rfl) (by kernel_rfl) (fun _ _ _ h => h) (Or.inl ⟨by rfl, ?hy19x2_12⟩) (by assumption) ?rest19x2_12
                    case hy19x2_12 => ((intro w hSw; (try dsimp only at hSw); go_simp); (try with_reducible rfl))
                    (try simp only [Act.put, Array.getInternal_eq_getElem, List.getElem_toArray, List.getElem_cons_zero, List.getElem_cons_succ, List.setIfInBounds_toArray, List.set_cons_zero, List.set_cons_succ])
                    refine wpAnyC_take [14] (i := 13) (oi := _) (v := ?v19x2_13) rfl (by kernel_rfl) (by kernel_rfl) (by kernel_rfl) (by kernel_rfl) (fun _ _ _ h => h) (Or.inl ⟨by rfl, ?hy19x2_13⟩) (by assumption) ?rest19x2_13
                    case hy19x2_13 => ((intro w hSw; (try dsimp only at hSw); go_simp); (try with_reducible rfl))
                    (try simp only [Act.put, Array.getInternal_eq_getElem, List.getElem_toArray, List.getElem_cons_zero, List.getElem_cons_succ, List.setIfInBounds_toArray, List.set_cons_zero, List.set_cons_succ])
                    refine wpAnyC_last (o := _) (by kernel_rfl) rfl (fun K hK => ?_)
                    go_simp
                    refine hK.out _ _ ?_
                    clear hK K
                    refine wpAnyC_done (by kernel_rfl) ?_ _
                    clear hown htwo hgx hgr HROW HQ hlt3 hqs hmb HI6 HS
                    go_upto_region 20 with fail
                    clear hco hfo
                    generalize (w3.setCell ⟨w.heap.size, 1, none⟩ (.slice (some ⟨g2, 0, none⟩) (mq + 1) cap2)) = w2 at *
                    have HI7 := Lib.hid (HI2.out.congr (lsF1 _ _ _ _ _))
                    clear HI2 c2'
                    obtain ⟨Aq, mq, cq, hmq, hvq, hcq, hfq, hrq⟩ := HI7.out.cell (t := 2) (by omega)
                    have hmb : mq ≤ 1000000 := by
                      rw [hmq]
                      have := HLN.out
                      (show LC.length ≤ _; omega)
                    have HROW : Hid (w2.ownsRow W2.heap.size 3 1 (.slice Aq mq cq) mq (ints ((lsF (LA ++ [b.th]) (LB ++ [(b.first : Int)]) LC LD) 2))) := own_keep hrq fun _ _ => rfl
                    have HQ := Lib.hid (And.intro hmq hvq)
                    have hqs := HI7.out.ex.size
                    clear hmq hvq hrq
                    go_wp2_with (at_builtin; refine halt_ ?_)
                    refine Halt_.go ?_
                    refine wl_append_two _ (by rfl) (.tmp 127) (.tmp 129) 31 (by rfl) W2.heap.size 3 _ 1 8 info3 Try.underlying31 rfl (by decide) (.slice Aq mq cq) mq (ints ((lsF (LA ++ [b.th]) (LB ++ [(b.first : Int)]) LC LD) 2)) (by rfl) (HROW.out.alloc _) w2.heap.size 1 [.int .i64 (k : Int)] (by rfl) (heap_at _ _ _ (by simp)) rfl (by simp [Value.oneCell']) (by omega) (by omega) (by simp; omega) ?_
                    intro g3 cap3 w3 hown hlt3 htwo
                    have hgx : w2.grownBy (w2.alloc (.cells #[.int .i64 (k : Int)] 3)) (Value.slice Aq mq cq).ownBlock := World.grownBy_alloc _ _ _
                    obtain ⟨hco, hfo⟩ := HI7.out.old (t := 2) (by omega) HQ.out.2 hgx htwo
                    have HI3 := Lib.hid (HI7.out.push rfl (t := 2) (by omega) HQ.out.1 HQ.out.2 hgx hown htwo)
                    clear hown htwo hgx hcq hfq HROW HQ hlt3 hqs hmb HI7
                    go_wp2
                    clear hco hfo
                    generalize (w3.setCell ⟨w.heap.size, 2, none⟩ (.slice (some ⟨g3, 0, none⟩) (mq + 1) cap3)) = w3 at *
                    have HI8 := Lib.hid (HI3.out.congr (lsF2 _ _ _ _ _))
                    clear HI3
                    have HI9 : Hid (WI W2 _ w.heap.size w.heap.size W2.heap.size _ (.slice (some ⟨gB, 0, none⟩) bl.length cb) (lsP (ptsB bl (k + 1)) (ofL l (pts l bl) (List.range (ptsB bl (k + 1)).length)))) := HI8.out.congr (by
                      rw [HPS.out, ← lsP_step, HLL.out.1, HLL.out.2.1, HLL.out.2.2.1, List.length_append, ← HPQ.out, ← HPP.out]
                      show _ = lsF (LA ++ [(blAt bl k).th]) (LB ++ [((blAt bl k).first : Int)]) (LC ++ [(k : Int)]) (ofL l P (List.range (p + 1)))
                      rw [HLL.out.2.2.2, ← HBB.out])
                    clear HI8
                    go_roundw
                    case rel => exact ⟨k + 1, _, hlt, by go_num, HI9⟩
                    case measure => simp [intOf]; omega
            · have ho' : OverB b = false := by simpa using ho
              rw [ho']
              have hps : ptsB bl (k + 1) = ptsB bl k := by rw [ptsB_succ, ← HBB.out, ho']; rfl
              have HI6 : Hid (WI W2 w4 w.heap.size w.heap.size W2.heap.size hd (.slice (some ⟨gB, 0, none⟩) bl.length cb) (lsP (ptsB bl (k + 1)) (ofL l (pts l bl) (List.range (ptsB bl (k + 1)).length)))) := by rw [hps]; exact HI4
              clear hps ho ho' HI4
              go_wp2
              go_roundw
              case rel => exact ⟨k + 1, _, hlt, by go_num, HI6⟩
              case measure => simp [intOf]; omega
        · obtain rfl : k = bl.length := by omega
          have HI5 : Hid (WI W2 wr w.heap.size w.heap.size W2.heap.size hd (.slice Ab bl.length cb) (lsP (ptsB bl bl.length ++ ptsE l 0) (ofL l (pts l bl) (List.range (ptsB bl bl.length ++ ptsE l 0).length)))) := HI.out.congr (by
            show _ = lsP (ptsB bl bl.length ++ []) (ofL l (pts l bl) (List.range (ptsB bl bl.length ++ []).length))
            rw [List.append_nil])
          clear HI
          generalize wr = wB at *
          go_wp2
          go_loopw [10] (fun i wr => ∃ (k : Nat) (hd : Nat → Value), k ≤ l.length ∧ i = .int .i64 k ∧ Hid (WI W2 wr w.heap.size w.heap.size W2.heap.size hd (.slice Ab bl.length cb) (lsP (ptsB bl bl.length ++ ptsE l k) (ofL l (pts l bl) (List.range (ptsB bl bl.length ++ ptsE l k).length))))) (fun i _ => l.length - (intOf i).toNat)
          case atStart => exact ⟨0, _, Nat.zero_le _, rfl, HI5⟩
          case round =>
            clear HI5
            obtain ⟨k, hd, hkn, rfl, HI⟩ := hrel
            by_cases hlt : k < l.length
            · as_aux_lemma =>
                obtain ⟨eb, eo, e, hAe, heb, he, hwd, e0, e1, e2, e3, e4, e5⟩ := (HI.out.ev HEV.out (by omega)).at_ (Below.refl _ _) (k := k) hlt
                subst hAe
                have HE := Lib.hid he.out
                have hgd : l.getD k ev0 = e := by simp [List.getD, he.out]
                have HGD := Lib.hid hgd
                have heb2 : eb < W2.heap.size := by omega
                have HEV7 : Hid (∀ W : World, ∀ {hd : Nat → Value} {ls : Nat → List Int}, WI W2 W w.heap.size w.heap.size W2.heap.size hd (.slice Ab bl.length cb) ls → W.cell? ⟨eb, eo + k * 6, none⟩ = some (.int .i64 e.th)) := fun W hd ls hW => by
                  obtain ⟨b', o', e', h1, _, h2, _, h3, _⟩ := (hW.ev HEV.out (by omega)).at_ (Below.refl _ _) (k := k) hlt
                  injection h1 with h1
                  injection h1 with h1 h4
                  have h5 := h2.out
                  rw [HE.out] at h5
                  obtain rfl := Option.some.inj h5
                  rw [h1, h4]
                  exact h3
                obtain ⟨t, kd, ad, x, ow, er⟩ := e
                simp only at e0 e1 HEV7
                have i1 : (0 : Int) ≤ (k : Int) := by omega
                have i2 : (k : Int) < (l.length : Int) := by omega
                clear he hwd e2 e3 e4 e5 hgd
                by_cases hp : PlK kd
                · have hpk : PlK (l.getD k ev0).kind := by rw [HGD.out]; exact hp
                  obtain ⟨hpN, hpt⟩ := pts_plain (bl := bl) hlt hpk
                  have hps : ptsE l (k + 1) = ptsE l k ++ [ptOfE l k] := by rw [ptsE_succ, if_pos hpk]
                  have hpB := ptsB_len bl bl.length
                  have hpE := ptsE_len l k
                  have hpl : (ptsB bl bl.length ++ ptsE l k).length = (ptsB bl bl.length).length + (ptsE l k).length := List.length_append
                  have HPS : Hid (ptsB bl bl.length ++ ptsE l (k + 1) = (ptsB bl bl.length ++ ptsE l k) ++ [ptOfE l k]) := by rw [hps, List.append_assoc]; exact rfl
                  have HPE : Hid (ptOfE l k = ⟨t, k, k, -1⟩) := by unfold ptOfE; rw [HGD.out]; exact rfl
                  obtain ⟨A3, q3, hv3, h3⟩ := HI.out.dw.at_ (t := 3) (by omega)
                  obtain ⟨A0, m0, q0, hm0, hv0, hc0, _, _⟩ := HI.out.cell (t := 0) (by omega)
                  have hl0 : m0 = (ptsB bl bl.length).length + (ptsE l k).length := by
                    rw [hm0, ← hpl]
                    show (List.map _ _).length = _
                    rw [List.length_map]
                  rw [hl0.symm] at hpN hpt hpl
                  have hm0b : m0 ≤ 2000 := by omega
                  generalize ptsB bl bl.length ++ ptsE l k = Q at *
                  have HQL := Lib.hid hpl
                  have hl3 : (lsP Q (ofL l (pts l bl) (List.range Q.length)) 3).length = l.length := ofL_len _ _ _
                  obtain ⟨x3, hx3⟩ : ∃ x, (lsP Q (ofL l (pts l bl) (List.range Q.length)) 3)[k]? = some x := ⟨_, List.getElem?_eq_getElem (by rw [hl3]; omega)⟩
                  obtain ⟨g3, hA3, _, _, hc3, hf3⟩ := h3 k x3 hx3
                  subst hA3
                  rw [hl3] at hv3
                  have hw3 := HI.out.dw.c (t := 3) (by omega)
                  rw [hv3] at hw3
                  have hw30 := hw3.1
                  have HV3 := Lib.hid hv3
                  have HHE : HasE l (pts l bl) m0 k := by
                    unfold HasE
                    rw [hpt]
                    exact ⟨Nat.le_refl _, Nat.le_refl _, rfl⟩
                  have HOF : Hid ((ofL l (pts l bl) (List.range Q.length)).set k (m0 : Int) = ofL l (pts l bl) (List.range (m0 + 1))) := by
                    have h1 := ofU_start l (pts l bl) (List.range m0) m0
                    have h2 := ofU_end (s := List.range m0) HF.out (fun q hq => by have := List.mem_range.1 hq; omega) hpN
                    rw [hpt] at h1 h2
                    change ofU l (pts l bl) (List.range m0) m0 k = _ at h1
                    change ofU l (pts l bl) (List.range m0) m0 (k + 1) = _ at h2
                    rw [List.range_succ, ← h2, ← ofU_hit HHE, h1, HQL.out]; exact rfl
                  have HNX : Hid (lsF (Q.map Pt.th ++ [t]) ((Q.map fun x => (x.fi : Int)) ++ [(k : Int)]) (Q.map Pt.bk ++ [-1]) (ofL l (pts l bl) (List.range (m0 + 1))) = lsP (ptsB bl bl.length ++ ptsE l (k + 1)) (ofL l (pts l bl) (List.range (ptsB bl bl.length ++ ptsE l (k + 1)).length))) := by
                    rw [HPS.out, HPE.out, ← lsP_step, List.length_append, HQL.out]
                    rfl
                  have HI0 : Hid (WI W2 wr w.heap.size w.heap.size W2.heap.size hd (.slice Ab bl.length cb) (lsF (Q.map Pt.th) (Q.map fun x => (x.fi : Int)) (Q.map Pt.bk) (ofL l (pts l bl) (List.range Q.length)))) := HI
                  clear HI hl0 hpN hpt hps hpB hpE h3 hm0 hv0 hl3 hx3 hv3 hw3 HHE
                  generalize hLA : Q.map Pt.th = LA at *
                  generalize hLB : (Q.map fun x => (x.fi : Int)) = LB at *
                  generalize hLC : Q.map Pt.bk = LC at *
                  generalize hLD : ofL l (pts l bl) (List.range (m0 + 1)) = LD at *
                  have HLN := Lib.hid (show LA.length = m0 ∧ LB.length = m0 ∧ LC.length = m0 from by rw [← hLA, ← hLB, ← hLC, ← HQL.out]; simp)
                  have HI := HI0
                  clear HI0 hLA hLB hLC hLD hpl hpk
                  rcases hp with rfl | rfl
                  · go_wp2
                    go_wp2
                    go_still_tail 10, (by kernel_rfl)
                    change wpList _ _ _ _ _ wr.drew
                    have HI2 := Lib.hid (((HI.out.set3 rfl HV3.out k (m0 : Int)).congr ((lsF3s _ _ _ _ _ _).trans (by rw [HOF.out]))).drew)
                    clear HI
                    go_upto_region 26 with fail
                    clear hc3 hf3 hw30 hc0
                    generalize (wr.setCell ⟨g3, k, none⟩ (.int .i64 (m0 : Int))).drew = w7 at *
                    have e0' : w7.cell? ⟨eb, eo + k * 6, none⟩ = some (.int .i64 t) := HEV7.out w7 HI2.out
                    clear e0 e1 HEV7
                    obtain ⟨Aq, mq, cq, hmq, hvq, hcq, hfq, hrq⟩ := HI2.out.cell (t := 0) (by omega)
                    have hmb : mq ≤ 1000000 := by
                      rw [hmq]
                      have := HLN.out
                      (show LA.length ≤ _; omega)
                    have HROW : Hid (w7.drew.ownsRow W2.heap.size 3 1 (.slice Aq mq cq) mq (ints ((lsF LA LB LC LD) 0))) := own_keep hrq fun _ _ => rfl
                    have HQ := Lib.hid (And.intro hmq hvq)
                    have hqs := HI2.out.ex.size
                    have hfar : ∀ j, (Value.slice Aq mq cq).ownBlock = some j → W2.heap.size ≤ j := fun j hj => (World.ownsRow.lt hrq j hj).1
                    have HS : Hid (∀ W : World, Ex w7 W (fun j => (Value.slice Aq mq cq).ownBlock = some j) → ((W.cell? ⟨w.heap.size, 0, none⟩ = some (.slice Aq mq cq) ∧ W.frozen? ⟨w.heap.size, 0, none⟩ = false ∧ W.cell? ⟨eb, eo + k * 6, none⟩ = some (.int .i64 t)) ∧ Ex w7 W (fun j => (Value.slice Aq mq cq).ownBlock = some j))) := fun W h => by
                      have hn : ∀ j, j < W2.heap.size → ¬ (Value.slice Aq mq cq).ownBlock = some j := fun j hj e => by have := hfar j e; omega
                      exact ⟨⟨(h.cell (p := ⟨w.heap.size, 0, none⟩) (by show w.heap.size < _; omega) (hn _ hws)).trans hcq, (World.frozen?_of_block (a := ⟨w.heap.size, 0, none⟩) (h.block w.heap.size (by omega) (hn _ hws))).trans hfq, (h.cell (p := ⟨eb, eo + k * 6, none⟩) (by show eb < _; omega) (hn _ heb2)).trans e0'⟩, h⟩
                    have hSt := HS.out w7.drew (Ex.refl w7 _).drew
                    clear hmq hvq hrq hfar hcq hfq
                    go_wp2
                    refine wp_region_C (S := fun W => (W.cell? ⟨w.heap.size, 0, none⟩ = some (.slice Aq mq cq) ∧ W.frozen? ⟨w.heap.size, 0, none⟩ = false ∧ W.cell? ⟨eb, eo + k * 6, none⟩ = some (.int .i64 t)) ∧ Ex w7 W (fun j => (Value.slice Aq mq cq).ownBlock = some j)) 14 (by kernel_rfl) hSt (fun hHeld => ?_)
                    clear hSt
                    refine wpAnyC_take [14] (i := 0) (oi := _) (v := ?v26x3_0) rfl (by kernel_rfl) (by kernel_rfl) (by kernel_rfl) (by kernel_rfl) (fun _ _ _ h => h) (Or.inl ⟨by rfl, ?hy26x3_0⟩) (by assumption) ?rest26x3_0
                    case hy26x3_0 => ((intro w hSw; (try dsimp only at hSw); go_simp); (try with_reducible rfl))
                    (try simp only [Act.put, Array.getInternal_eq_getElem, List.getElem_toArray, List.getElem_cons_zero, List.getElem_cons_succ, List.setIfInBounds_toArray, List.set_cons_zero, List.set_cons_succ])
                    refine wpAnyC_take [14] (i := 1) (oi := _) (v := ?v26x3_1) rfl (by kernel_rfl) (by kernel_rfl) (by kernel_rfl) (by kernel_rfl) (fun _ _ _ h => h) (Or.inl ⟨by rfl, ?hy26x3_1⟩) (by assumption) ?rest26x3_1
                    case hy26x3_1 => ((intro w hSw; (try dsimp only at hSw); go_simp); (try with_reducible rfl))
                    (try simp only [Act.put, Array.getInternal_eq_getElem, List.getElem_toArray, List.getElem_cons_zero, List.getElem_cons_succ, List.setIfInBounds_toArray, List.set_cons_zero, List.set_cons_succ])
                    refine wpAnyC_take [14] (i := 2) (oi := _) (v := ?v26x3_2) rfl (by kernel_rfl) (by kernel_rfl) (by kernel_rfl) (by kernel_rfl) (fun _ _ _ h => h) (Or.inl ⟨by rfl, ?hy26x3_2⟩) (by assumption) ?rest26x3_2
                    case hy26x3_2 => ((intro w hSw; (try dsimp only at hSw); go_simp); (try with_reducible rfl))
                    (try simp only [Act.put, Array.getInternal_eq_getElem, List.getElem_toArray, List.getElem_cons_zero, List.getElem_cons_succ, List.setIfInBounds_toArray, List.set_cons_zero, List.set_cons_succ])
                    refine wpAnyC_take [14] (i := 3) (oi := _) (v := ?v26x3_3) rfl (by kernel_rfl) (by kernel_rfl) (by kernel_rfl) (by kernel_rfl) (fun _ _ _ h => h) (Or.inl ⟨by rfl, ?hy26x3_3⟩) (by assumption) ?rest26x3_3
                    case hy26x3_3 => ((intro w hSw; (try dsimp only at hSw); go_simp); (try with_reducible rfl))
                    (try simp only [Act.put, Array.getInternal_eq_getElem, List.getElem_toArray, List.getElem_cons_zero, List.getElem_cons_succ, List.setIfInBounds_toArray, List.set_cons_zero, List.set_cons_succ])
                    refine wpAnyC_take [14] (i := 4) (oi := _) (v := ?v26x3_4) rfl (by kernel_rfl) (by kernel_rfl) (by kernel_rfl) (by kernel_rfl) (fun _ _ _ h => h) (Or.inl ⟨by rfl, ?hy26x3_4⟩) (by assumption) ?rest26x3_4
                    case hy26x3_4 => ((intro w hSw; (try dsimp only at hSw); go_simp); (try with_reducible rfl))
                    (try simp only [Act.put, Array.getInternal_eq_getElem, List.getElem_toArray, List.getElem_cons_zero, List.getElem_cons_succ, List.setIfInBounds_toArray, List.set_cons_zero, List.set_cons_succ])
                    refine wpAnyC_take [14] (i := 5) (oi := _) (v := ?v26x3_5) rfl (by kernel_rfl) (by kernel_rfl) (by kernel_rfl) (by kernel_rfl) (fun _ _ _ h => h) (Or.inl ⟨by rfl, ?hy26x3_5⟩) (by assumption) ?rest26x3_5
                    case hy26x3_5 => ((intro w hSw; (try dsimp only at hSw); go_simp); (try with_reducible rfl))
                    (try simp only [Act.put, Array.getInternal_eq_getElem, List.getElem_toArray, List.getElem_cons_zero, List.getElem_cons_succ, List.setIfInBounds_toArray, List.set_cons_zero, List.set_cons_succ])
                    refine wpAnyC_take [14] (i := 6) (oi := _) (v := ?v26x3_6) rfl (by kernel_rfl) (by kernel_rfl) (by kernel_rfl) (by kernel_rfl) (fun _ _ _ h => h) (Or.inl ⟨by rfl, ?hy26x3_6⟩) (by assumption) ?rest26x3_6
                    case hy26x3_6 => ((intro w hSw; (try dsimp only at hSw); go_simp); (try with_reducible rfl))
                    (try simp only [Act.put, Array.getInternal_eq_getElem, List.getElem_toArray, List.getElem_cons_zero, List.getElem_cons_succ, List.setIfInBounds_toArray, List.set_cons_zero, List.set_cons_succ])
                    refine wpAnyC_take [14] (i := 7) (oi := _) (v := ?v26x3_7) rfl (by kernel_rfl) (by kernel_rfl) (by kernel_rfl) (by kernel_rfl) (fun _ _ _ h => h) (Or.inl ⟨by rfl, ?hy26x3_7⟩) (by assumption) ?rest26x3_7
                    case hy26x3_7 => ((intro w hSw; (try dsimp only at hSw); go_simp); (try with_reducible rfl))
                    (try simp only [Act.put, Array.getInternal_eq_getElem, List.getElem_toArray, List.getElem_cons_zero, List.getElem_cons_succ, List.setIfInBounds_toArray, List.set_cons_zero, List.set_cons_succ])
                    refine wpAnyC_take [14] (i := 8) (oi := _) (v := ?v26x3_8) rfl (by kernel_rfl) (by kernel_rfl) (by kernel_rfl) (by kernel_rfl) (fun _ _ _ h => h) (Or.inl ⟨by rfl, ?hy26x3_8⟩) (by assumption) ?rest26x3_8
                    case hy26x3_8 => ((intro w hSw; (try dsimp only at hSw); go_simp); (try with_reducible rfl))
                    (try simp only [Act.put, Array.getInternal_eq_getElem, List.getElem_toArray, List.getElem_cons_zero, List.getElem_cons_succ, List.setIfInBounds_toArray, List.set_cons_zero, List.set_cons_succ])
                    refine wpAnyC_take [14] (i := 9) (oi := _) (v := ?v26x3_9) rfl (by kernel_rfl) (by kernel_rfl) (by kernel_rfl) (by kernel_rfl) (fun _ _ _ h => h) (Or.inl ⟨by rfl, ?hy26x3_9⟩) (by assumption) ?rest26x3_9
                    case hy26x3_9 => ((intro w hSw; (try dsimp only at hSw); go_simp); (try with_reducible rfl))
                    (try simp only [Act.put, Array.getInternal_eq_getElem, List.getElem_toArray, List.getElem_cons_zero, List.getElem_cons_succ, List.setIfInBounds_toArray, List.set_cons_zero, List.set_cons_succ])
                    refine wpAnyC_one (i := 10) (o := _) (by kernel_rfl) rfl (fun K hK => ?_)
                    go_simp
                    refine hK.out _ _ (HS.out _ (hHeld.2.alloc _)) (fun hHeldN => ?_)
                    clear hK K hHeld
                    have hHeld := hHeldN
                    clear hHeldN
                    (try simp only [Act.put, Array.getInternal_eq_getElem, List.getElem_toArray, List.getElem_cons_zero, List.getElem_cons_succ, List.setIfInBounds_toArray, List.set_cons_zero, List.set_cons_succ])
                    refine wpAnyC_one (i := 11) (o := _) (by kernel_rfl) rfl (fun K hK => ?_)
                    refine step_append_two _ (by rfl) (.tmp 168) (.tmp 174) 31 (by rfl) W2.heap.size 3 _ 1 8 info3 Try.underlying31 rfl (by decide) (.slice Aq mq cq) mq (ints ((lsF LA LB LC LD) 0)) (by rfl) (HROW.out.alloc _) w7.heap.size 1 [.int .i64 t] (by rfl) (heap_at _ _ _ (by simp)) rfl (by simp [Value.oneCell']) (by omega) (by omega) (by simp; omega) ?_
                    intro g4 cap4 w3 hown hlt3 htwo
                    have hgx : w7.grownBy (w7.drew.alloc (.cells #[.int .i64 t] 3)) (Value.slice Aq mq cq).ownBlock := grown_trans (grown_drew _ _) (World.grownBy_alloc _ _ _)
                    obtain ⟨hco, hfo⟩ := HI2.out.old (t := 0) (by omega) HQ.out.2 hgx htwo
                    have HI4 := Lib.hid (HI2.out.push rfl (t := 0) (by omega) HQ.out.1 HQ.out.2 hgx hown htwo)
                    have hgr := grown_trans hgx (two_grown htwo)
                    refine hK.out _ _ (HS.out _ ((Ex.refl w7 _).grown hgr (fun _ h _ => h))) (fun hHeldN => ?_)
                    clear hK K hHeld
                    have hHeld := hHeldN
                    clear hHeldN
                    (try simp only [Act.put, Array.getInternal_eq_getElem, List.getElem_toArray, List.getElem_cons_zero, List.getElem_cons_succ, List.setIfInBounds_toArray, List.set_cons_zero, List.set_cons_succ])
                    refine wpAnyC_take [14, 13] (i := 12) (oi := _) (v := ?v26x3_12) rfl (by kernel_rfl) (by kernel_rfl) (by kernel_rfl) (by kernel_rfl) (fun _ _ _ h => h) (Or.inl ⟨by rfl, ?hy26x3_12⟩) (by assumption) ?rest26x3_12
                    case hy26x3_12 => ((intro w hSw; (try dsimp only at hSw); go_simp); (try with_reducible rfl))
                    (try simp only [Act.put, Array.getInternal_eq_getElem, List.getElem_toArray, List.getElem_cons_zero, List.getElem_cons_succ, List.setIfInBounds_toArray, List.set_cons_zero, List.set_cons_succ])
                    refine wpAnyC_take [14] (i := 13) (oi := _) (v := ?v26x3_13) rfl (by kernel_rfl) (by kernel_rfl) (by kernel_rfl) (by kernel_rfl) (fun _ _ _ h => h) (Or.inl ⟨by rfl, ?hy26x3_13⟩) (by assumption) ?rest26x3_13
                    case hy26x3_13 => ((intro w hSw; (try dsimp only at hSw); go_simp); (try with_reducible rfl))
                    (try simp only [Act.put, Array.getInternal_eq_getElem, List.getElem_toArray, List.getElem_cons_zero, List.getElem_cons_succ, List.setIfInBounds_toArray, List.set_cons_zero, List.set_cons_succ])
                    refine wpAnyC_last (o := _) (by kernel_rfl) rfl (fun K hK => ?_)
                    go_simp
                    refine hK.out _ _ ?_
                    clear hK K
                    refine wpAnyC_done (by kernel_rfl) ?_ _
                    clear hown htwo hgx hgr HROW HQ hlt3 hqs hmb HI2 HS
                    go_upto_region 27 with fail
                    clear hco hfo
                    generalize (w3.setCell ⟨w.heap.size, 0, none⟩ (.slice (some ⟨g4, 0, none⟩) (mq + 1) cap4)) = w4 at *
                    have HI6 := Lib.hid (HI4.out.congr (lsF0 _ _ _ _ _))
                    clear HI4 e0'
                    obtain ⟨Aq, mq, cq, hmq, hvq, hcq, hfq, hrq⟩ := HI6.out.cell (t := 1) (by omega)
                    have hmb : mq ≤ 1000000 := by
                      rw [hmq]
                      have := HLN.out
                      (show LB.length ≤ _; omega)
                    have HROW : Hid (w4.ownsRow W2.heap.size 3 1 (.slice Aq mq cq) mq (ints ((lsF (LA ++ [t]) LB LC LD) 1))) := own_keep hrq fun _ _ => rfl
                    have HQ := Lib.hid (And.intro hmq hvq)
                    have hqs := HI6.out.ex.size
                    clear hmq hvq hrq
                    go_wp2_with (at_builtin; refine halt_ ?_)
                    refine Halt_.go ?_
                    refine wl_append_two _ (by rfl) (.tmp 182) (.tmp 184) 31 (by rfl) W2.heap.size 3 _ 1 8 info3 Try.underlying31 rfl (by decide) (.slice Aq mq cq) mq (ints ((lsF (LA ++ [t]) LB LC LD) 1)) (by rfl) (HROW.out.alloc _) w4.heap.size 1 [.int .i64 (k : Int)] (by rfl) (heap_at _ _ _ (by simp)) rfl (by simp [Value.oneCell']) (by omega) (by omega) (by simp; omega) ?_
                    intro g5 cap5 w3 hown hlt3 htwo
                    have hgx : w4.grownBy (w4.alloc (.cells #[.int .i64 (k : Int)] 3)) (Value.slice Aq mq cq).ownBlock := World.grownBy_alloc _ _ _
                    obtain ⟨hco, hfo⟩ := HI6.out.old (t := 1) (by omega) HQ.out.2 hgx htwo
                    have HI5 := Lib.hid (HI6.out.push rfl (t := 1) (by omega) HQ.out.1 HQ.out.2 hgx hown htwo)
                    clear hown htwo hgx hcq hfq HROW HQ hlt3 hqs hmb HI6
                    go_upto_region 28 with fail
                    clear hco hfo
                    generalize (w3.setCell ⟨w.heap.size, 1, none⟩ (.slice (some ⟨g5, 0, none⟩) (mq + 1) cap5)) = w5 at *
                    have HI7 := Lib.hid (HI5.out.congr (lsF1 _ _ _ _ _))
                    clear HI5
                    obtain ⟨Aq, mq, cq, hmq, hvq, hcq, hfq, hrq⟩ := HI7.out.cell (t := 2) (by omega)
                    have hmb : mq ≤ 1000000 := by
                      rw [hmq]
                      have := HLN.out
                      (show LC.length ≤ _; omega)
                    have HROW : Hid (w5.ownsRow W2.heap.size 3 1 (.slice Aq mq cq) mq (ints ((lsF (LA ++ [t]) (LB ++ [(k : Int)]) LC LD) 2))) := own_keep hrq fun _ _ => rfl
                    have HQ := Lib.hid (And.intro hmq hvq)
                    have hqs := HI7.out.ex.size
                    clear hmq hvq hrq
                    go_wp2_with (at_builtin; refine halt_ ?_)
                    refine Halt_.go ?_
                    refine wl_append_two _ (by rfl) (.tmp 192) (.tmp 193) 31 (by rfl) W2.heap.size 3 _ 1 8 info3 Try.underlying31 rfl (by decide) (.slice Aq mq cq) mq (ints ((lsF (LA ++ [t]) (LB ++ [(k : Int)]) LC LD) 2)) (by rfl) (HROW.out.alloc _) w5.heap.size 1 [.int .i64 (-1)] (by rfl) (heap_at _ _ _ (by simp)) rfl (by simp [Value.oneCell']) (by omega) (by omega) (by simp; omega) ?_
                    intro g6 cap6 w3 hown hlt3 htwo
                    have hgx : w5.grownBy (w5.alloc (.cells #[.int .i64 (-1)] 3)) (Value.slice Aq mq cq).ownBlock := World.grownBy_alloc _ _ _
                    obtain ⟨hco, hfo⟩ := HI7.out.old (t := 2) (by omega) HQ.out.2 hgx htwo
                    have HI6 := Lib.hid (HI7.out.push rfl (t := 2) (by omega) HQ.out.1 HQ.out.2 hgx hown htwo)
                    clear hown htwo hgx hcq hfq HROW HQ hlt3 hqs hmb HI7
                    go_wp2
                    clear hco hfo
                    generalize (w3.setCell ⟨w.heap.size, 2, none⟩ (.slice (some ⟨g6, 0, none⟩) (mq + 1) cap6)) = w6 at *
                    have HI8 := Lib.hid (HI6.out.congr (lsF2 _ _ _ _ _))
                    clear HI6
                    have HI9 := Lib.hid (HI8.out.congr HNX.out)
                    clear HI8
                    go_roundw
                    case rel => exact ⟨k + 1, _, hlt, by go_num, HI9⟩
                    case measure => simp [intOf]; omega
                  · go_wp2
                    go_wp2
                    go_still_tail 10, (by kernel_rfl)
                    change wpList _ _ _ _ _ wr.drew
                    have HI2 := Lib.hid (((HI.out.set3 rfl HV3.out k (m0 : Int)).congr ((lsF3s _ _ _ _ _ _).trans (by rw [HOF.out]))).drew)
                    clear HI
                    go_upto_region 26 with fail
                    clear hc3 hf3 hw30 hc0
                    generalize (wr.setCell ⟨g3, k, none⟩ (.int .i64 (m0 : Int))).drew = w7 at *
                    have e0' : w7.cell? ⟨eb, eo + k * 6, none⟩ = some (.int .i64 t) := HEV7.out w7 HI2.out
                    clear e0 e1 HEV7
                    obtain ⟨Aq, mq, cq, hmq, hvq, hcq, hfq, hrq⟩ := HI2.out.cell (t := 0) (by omega)
                    have hmb : mq ≤ 1000000 := by
                      rw [hmq]
                      have := HLN.out
                      (show LA.length ≤ _; omega)
                    have HROW : Hid (w7.drew.ownsRow W2.heap.size 3 1 (.slice Aq mq cq) mq (ints ((lsF LA LB LC LD) 0))) := own_keep hrq fun _ _ => rfl
                    have HQ := Lib.hid (And.intro hmq hvq)
                    have hqs := HI2.out.ex.size
                    have hfar : ∀ j, (Value.slice Aq mq cq).ownBlock = some j → W2.heap.size ≤ j := fun j hj => (World.ownsRow.lt hrq j hj).1
                    have HS : Hid (∀ W : World, Ex w7 W (fun j => (Value.slice Aq mq cq).ownBlock = some j) → ((W.cell? ⟨w.heap.size, 0, none⟩ = some (.slice Aq mq cq) ∧ W.frozen? ⟨w.heap.size, 0, none⟩ = false ∧ W.cell? ⟨eb, eo + k * 6, none⟩ = some (.int .i64 t)) ∧ Ex w7 W (fun j => (Value.slice Aq mq cq).ownBlock = some j))) := fun W h => by
                      have hn : ∀ j, j < W2.heap.size → ¬ (Value.slice Aq mq cq).ownBlock = some j := fun j hj e => by have := hfar j e; omega
                      exact ⟨⟨(h.cell (p := ⟨w.heap.size, 0, none⟩) (by show w.heap.size < _; omega) (hn _ hws)).trans hcq, (World.frozen?_of_block (a := ⟨w.heap.size, 0, none⟩) (h.block w.heap.size (by omega) (hn _ hws))).trans hfq, (h.cell (p := ⟨eb, eo + k * 6, none⟩) (by show eb < _; omega) (hn _ heb2)).trans e0'⟩, h⟩
                    have hSt := HS.out w7.drew (Ex.refl w7 _).drew
                    clear hmq hvq hrq hfar hcq hfq
                    go_wp2
                    refine wp_region_C (S := fun W => (W.cell? ⟨w.heap.size, 0, none⟩ = some (.slice Aq mq cq) ∧ W.frozen? ⟨w.heap.size, 0, none⟩ = false ∧ W.cell? ⟨eb, eo + k * 6, none⟩ = some (.int .i64 t)) ∧ Ex w7 W (fun j => (Value.slice Aq mq cq).ownBlock = some j)) 14 (by kernel_rfl) hSt (fun hHeld => ?_)
                    clear hSt
                    refine wpAnyC_take [14] (i := 0) (oi := _) (v := ?v26x4_0) rfl (by kernel_rfl) (by kernel_rfl) (by kernel_rfl) (by kernel_rfl) (fun _ _ _ h => h) (Or.inl ⟨by rfl, ?hy26x4_0⟩) (by assumption) ?rest26x4_0
                    case hy26x4_0 => ((intro w hSw; (try dsimp only at hSw); go_simp); (try with_reducible rfl))
                    (try simp only [Act.put, Array.getInternal_eq_getElem, List.getElem_toArray, List.getElem_cons_zero, List.getElem_cons_succ, List.setIfInBounds_toArray, List.set_cons_zero, List.set_cons_succ])
                    refine wpAnyC_take [14] (i := 1) (oi := _) (v := ?v26x4_1) rfl (by kernel_rfl) (by kernel_rfl) (by kernel_rfl) (by kernel_rfl) (fun _ _ _ h => h) (Or.inl ⟨by rfl, ?hy26x4_1⟩) (by assumption) ?rest26x4_1
                    case hy26x4_1 => ((intro w hSw; (try dsimp only at hSw); go_simp); (try with_reducible rfl))
                    (try simp only [Act.put, Array.getInternal_eq_getElem, List.getElem_toArray, List.getElem_cons_zero, List.getElem_cons_succ, List.setIfInBounds_toArray, List.set_cons_zero, List.set_cons_succ])
                    refine wpAnyC_take [14] (i := 2) (oi := _) (v := ?v26x4_2) rfl (by kernel_rfl) (by kernel_rfl) (by kernel_rfl) (by kernel_rfl) (fun _ _ _ h => h) (Or.inl ⟨by rfl, ?hy26x4_2⟩) (by assumption) ?rest26x4_2
                    case hy26x4_2 => ((intro w hSw; (try dsimp only at hSw); go_simp); (try with_reducible rfl))
                    (try simp only [Act.put, Array.getInternal_eq_getElem, List.getElem_toArray, List.getElem_cons_zero, List.getElem_cons_succ, List.setIfInBounds_toArray, List.set_cons_zero, List.set_cons_succ])
                    refine wpAnyC_take [14] (i := 3) (oi := _) (v := ?v26x4_3) rfl (by kernel_rfl) (by kernel_rfl) (by kernel_rfl) (by kernel_rfl) (fun _ _ _ h => h) (Or.inl ⟨by rfl, ?hy26x4_3⟩) (by assumption) ?rest26x4_3
                    case hy26x4_3 => ((intro w hSw; (try dsimp only at hSw); go_simp); (try with_reducible rfl))
                    (try simp only [Act.put, Array.getInternal_eq_getElem, List.getElem_toArray, List.getElem_cons_zero, List.getElem_cons_succ, List.setIfInBounds_toArray, List.set_cons_zero, List.set_cons_succ])
                    refine wpAnyC_take [14] (i := 4) (oi := _) (v := ?v26x4_4) rfl (by kernel_rfl) (by kernel_rfl) (by kernel_rfl) (by kernel_rfl) (fun _ _ _ h => h) (Or.inl ⟨by rfl, ?hy26x4_4⟩) (by assumption) ?rest26x4_4
                    case hy26x4_4 => ((intro w hSw; (try dsimp only at hSw); go_simp); (try with_reducible rfl))
                    (try simp only [Act.put, Array.getInternal_eq_getElem, List.getElem_toArray, List.getElem_cons_zero, List.getElem_cons_succ, List.setIfInBounds_toArray, List.set_cons_zero, List.set_cons_succ])
                    refine wpAnyC_take [14] (i := 5) (oi := _) (v := ?v26x4_5) rfl (by kernel_rfl) (by kernel_rfl) (by kernel_rfl) (by kernel_rfl) (fun _ _ _ h => h) (Or.inl ⟨by rfl, ?hy26x4_5⟩) (by assumption) ?rest26x4_5
                    case hy26x4_5 => ((intro w hSw; (try dsimp only at hSw); go_simp); (try with_reducible rfl))
                    (try simp only [Act.put, Array.getInternal_eq_getElem, List.getElem_toArray, List.getElem_cons_zero, List.getElem_cons_succ, List.setIfInBounds_toArray, List.set_cons_zero, List.set_cons_succ])
                    refine wpAnyC_take [14] (i := 6) (oi := _) (v := ?v26x4_6) rfl (by kernel_rfl) (by kernel_rfl) (by kernel_rfl) (by kernel_rfl) (fun _ _ _ h => h) (Or.inl ⟨by rfl, ?hy26x4_6⟩) (by assumption) ?rest26x4_6
                    case hy26x4_6 => ((intro w hSw; (try dsimp only at hSw); go_simp); (try with_reducible rfl))
                    (try simp only [Act.put, Array.getInternal_eq_getElem, List.getElem_toArray, List.getElem_cons_zero, List.getElem_cons_succ, List.setIfInBounds_toArray, List.set_cons_zero, List.set_cons_succ])
                    refine wpAnyC_take [14] (i := 7) (oi := _) (v := ?v26x4_7) rfl (by kernel_rfl) (by kernel_rfl) (by kernel_rfl) (by kernel_rfl) (fun _ _ _ h => h) (Or.inl ⟨by rfl, ?hy26x4_7⟩) (by assumption) ?rest26x4_7
                    case hy26x4_7 => ((intro w hSw; (try dsimp only at hSw); go_simp); (try with_reducible rfl))
                    (try simp only [Act.put, Array.getInternal_eq_getElem, List.getElem_toArray, List.getElem_cons_zero, List.getElem_cons_succ, List.setIfInBounds_toArray, List.set_cons_zero, List.set_cons_succ])
                    refine wpAnyC_take [14] (i := 8) (oi := _) (v := ?v26x4_8) rfl (by kernel_rfl) (by kernel_rfl) (by kernel_rfl) (by kernel_rfl) (fun _ _ _ h => h) (Or.inl ⟨by rfl, ?hy26x4_8⟩) (by assumption) ?rest26x4_8
                    case hy26x4_8 => ((intro w hSw; (try dsimp only at hSw); go_simp); (try with_reducible rfl))
                    (try simp only [Act.put, Array.getInternal_eq_getElem, List.getElem_toArray, List.getElem_cons_zero, List.getElem_cons_succ, List.setIfInBounds_toArray, List.set_cons_zero, List.set_cons_succ])
                    refine wpAnyC_take [14] (i := 9) (oi := _) (v := ?v26x4_9) rfl (by kernel_rfl) (by kernel_rfl) (by kernel_rfl) (by kernel_rfl) (fun _ _ _ h => h) (Or.inl ⟨by rfl, ?hy26x4_9⟩) (by assumption) ?rest26x4_9
                    case hy26x4_9 => ((intro w hSw; (try dsimp only at hSw); go_simp); (try with_reducible rfl))
                    (try simp only [Act.put, Array.getInternal_eq_getElem, List.getElem_toArray, List.getElem_cons_zero, List.getElem_cons_succ, List.setIfInBounds_toArray, List.set_cons_zero, List.set_cons_succ])
                    refine wpAnyC_one (i := 10) (o := _) (by kernel_rfl) rfl (fun K hK => ?_)
                    go_simp
                    refine hK.out _ _ (HS.out _ (hHeld.2.alloc _)) (fun hHeldN => ?_)
                    clear hK K hHeld
                    have hHeld := hHeldN
                    clear hHeldN
                    (try simp only [Act.put, Array.getInternal_eq_getElem, List.getElem_toArray, List.getElem_cons_zero, List.getElem_cons_succ, List.setIfInBounds_toArray, List.set_cons_zero, List.set_cons_succ])
                    refine wpAnyC_one (i := 11) (o := _) (by kernel_rfl) rfl (fun K hK => ?_)
                    refine step_append_two _ (by rfl) (.tmp 168) (.tmp 174) 31 (by rfl) W2.heap.size 3 _ 1 8 info3 Try.underlying31 rfl (by decide) (.slice Aq mq cq) mq (ints ((lsF LA LB LC LD) 0)) (by rfl) (HROW.out.alloc _) w7.heap.size 1 [.int .i64 t] (by rfl) (heap_at _ _ _ (by simp)) rfl (by simp [Value.oneCell']) (by omega) (by omega) (by simp; omega) ?_
                    intro g4 cap4 w3 hown hlt3 htwo
                    have hgx : w7.grownBy (w7.drew.alloc (.cells #[.int .i64 t] 3)) (Value.slice Aq mq cq).ownBlock := grown_trans (grown_drew _ _) (World.grownBy_alloc _ _ _)
                    obtain ⟨hco, hfo⟩ := HI2.out.old (t := 0) (by omega) HQ.out.2 hgx htwo
                    have HI4 := Lib.hid (HI2.out.push rfl (t := 0) (by omega) HQ.out.1 HQ.out.2 hgx hown htwo)
                    have hgr := grown_trans hgx (two_grown htwo)
                    refine hK.out _ _ (HS.out _ ((Ex.refl w7 _).grown hgr (fun _ h _ => h))) (fun hHeldN => ?_)
                    clear hK K hHeld
                    have hHeld := hHeldN
                    clear hHeldN
                    (try simp only [Act.put, Array.getInternal_eq_getElem, List.getElem_toArray, List.getElem_cons_zero, List.getElem_cons_succ, List.setIfInBounds_toArray, List.set_cons_zero, List.set_cons_succ])
                    refine wpAnyC_take [14, 13] (i := 12) (oi := _) (v := ?v26x4_12) rfl (by kernel_rfl) (by kernel_rfl) (by kernel_rfl) (by kernel_rfl) (fun _ _ _ h => h) (Or.inl ⟨by rfl, ?hy26x4_12⟩) (by assumption) ?rest26x4_12
                    case hy26x4_12 => ((intro w hSw; (try dsimp only at hSw); go_simp); (try with_reducible rfl))
                    (try simp only [Act.put, Array.getInternal_eq_getElem, List.getElem_toArray, List.getElem_cons_zero, List.getElem_cons_succ, List.setIfInBounds_toArray, List.set_cons_zero, List.set_cons_succ])
                    refine wpAnyC_take [14] (i := 13) (oi := _) (v := ?v26x4_13) rfl (by kernel_rfl) (by kernel_rfl) (by kernel_rfl) (by kernel_rfl) (fun _ _ _ h => h) (Or.inl ⟨by rfl, ?hy26x4_13⟩) (by assumption) ?rest26x4_13
                    case hy26x4_13 => ((intro w hSw; (try dsimp only at hSw); go_simp); (try with_reducible rfl))
                    (try simp only [Act.put, Array.getInternal_eq_getElem, List.getElem_toArray, List.getElem_cons_zero, List.getElem_cons_succ, List.setIfInBounds_toArray, List.set_cons_zero, List.set_cons_succ])
                    refine wpAnyC_last (o := _) (by kernel_rfl) rfl (fun K hK => ?_)
                    go_simp
                    refine hK.out _ _ ?_
                    clear hK K
                    refine wpAnyC_done (by kernel_rfl) ?_ _
                    clear hown htwo hgx hgr HROW HQ hlt3 hqs hmb HI2 HS
                    go_upto_region 27 with fail
                    clear hco hfo
                    generalize (w3.setCell ⟨w.heap.size, 0, none⟩ (.slice (some ⟨g4, 0, none⟩) (mq + 1) cap4)) = w4 at *
                    have HI6 := Lib.hid (HI4.out.congr (lsF0 _ _ _ _ _))
                    clear HI4 e0'
                    obtain ⟨Aq, mq, cq, hmq, hvq, hcq, hfq, hrq⟩ := HI6.out.cell (t := 1) (by omega)
                    have hmb : mq ≤ 1000000 := by
                      rw [hmq]
                      have := HLN.out
                      (show LB.length ≤ _; omega)
                    have HROW : Hid (w4.ownsRow W2.heap.size 3 1 (.slice Aq mq cq) mq (ints ((lsF (LA ++ [t]) LB LC LD) 1))) := own_keep hrq fun _ _ => rfl
                    have HQ := Lib.hid (And.intro hmq hvq)
                    have hqs := HI6.out.ex.size
                    clear hmq hvq hrq
                    go_wp2_with (at_builtin; refine halt_ ?_)
                    refine Halt_.go ?_
                    refine wl_append_two _ (by rfl) (.tmp 182) (.tmp 184) 31 (by rfl) W2.heap.size 3 _ 1 8 info3 Try.underlying31 rfl (by decide) (.slice Aq mq cq) mq (ints ((lsF (LA ++ [t]) LB LC LD) 1)) (by rfl) (HROW.out.alloc _) w4.heap.size 1 [.int .i64 (k : Int)] (by rfl) (heap_at _ _ _ (by simp)) rfl (by simp [Value.oneCell']) (by omega) (by omega) (by simp; omega) ?_
                    intro g5 cap5 w3 hown hlt3 htwo
                    have hgx : w4.grownBy (w4.alloc (.cells #[.int .i64 (k : Int)] 3)) (Value.slice Aq mq cq).ownBlock := World.grownBy_alloc _ _ _
                    obtain ⟨hco, hfo⟩ := HI6.out.old (t := 1) (by omega) HQ.out.2 hgx htwo
                    have HI5 := Lib.hid (HI6.out.push rfl (t := 1) (by omega) HQ.out.1 HQ.out.2 hgx hown htwo)
                    clear hown htwo hgx hcq hfq HROW HQ hlt3 hqs hmb HI6
                    go_upto_region 28 with fail
                    clear hco hfo
                    generalize (w3.setCell ⟨w.heap.size, 1, none⟩ (.slice (some ⟨g5, 0, none⟩) (mq + 1) cap5)) = w5 at *
                    have HI7 := Lib.hid (HI5.out.congr (lsF1 _ _ _ _ _))
                    clear HI5
                    obtain ⟨Aq, mq, cq, hmq, hvq, hcq, hfq, hrq⟩ := HI7.out.cell (t := 2) (by omega)
                    have hmb : mq ≤ 1000000 := by
                      rw [hmq]
                      have := HLN.out
                      (show LC.length ≤ _; omega)
                    have HROW : Hid (w5.ownsRow W2.heap.size 3 1 (.slice Aq mq cq) mq (ints ((lsF (LA ++ [t]) (LB ++ [(k : Int)]) LC LD) 2))) := own_keep hrq fun _ _ => rfl
                    have HQ := Lib.hid (And.intro hmq hvq)
                    have hqs := HI7.out.ex.size
                    clear hmq hvq hrq
                    go_wp2_with (at_builtin; refine halt_ ?_)
                    refine Halt_.go ?_
                    refine wl_append_two _ (by rfl) (.tmp 192) (.tmp 193) 31 (by rfl) W2.heap.size 3 _ 1 8 info3 Try.underlying31 rfl (by decide) (.slice Aq mq cq) mq (ints ((lsF (LA ++ [t]) (LB ++ [(k : Int)]) LC LD) 2)) (by rfl) (HROW.out.alloc _) w5.heap.size 1 [.int .i64 (-1)] (by rfl) (heap_at _ _ _ (by simp)) rfl (by simp [Value.oneCell']) (by omega) (by omega) (by simp; omega) ?_
                    intro g6 cap6 w3 hown hlt3 htwo
                    have hgx : w5.grownBy (w5.alloc (.cells #[.int .i64 (-1)] 3)) (Value.slice Aq mq cq).ownBlock := World.grownBy_alloc _ _ _
                    obtain ⟨hco, hfo⟩ := HI7.out.old (t := 2) (by omega) HQ.out.2 hgx htwo
                    have HI6 := Lib.hid (HI7.out.push rfl (t := 2) (by omega) HQ.out.1 HQ.out.2 hgx hown htwo)
                    clear hown htwo hgx hcq hfq HROW HQ hlt3 hqs hmb HI7
                    go_wp2
                    clear hco hfo
                    generalize (w3.setCell ⟨w.heap.size, 2, none⟩ (.slice (some ⟨g6, 0, none⟩) (mq + 1) cap6)) = w6 at *
                    have HI8 := Lib.hid (HI6.out.congr (lsF2 _ _ _ _ _))
                    clear HI6
                    have HI9 := Lib.hid (HI8.out.congr HNX.out)
                    clear HI8
                    go_roundw
                    case rel => exact ⟨k + 1, _, hlt, by go_num, HI9⟩
                    case measure => simp [intOf]; omega
                · have hpk : ¬ PlK (l.getD k ev0).kind := by rw [HGD.out]; exact hp
                  have hps : ptsE l (k + 1) = ptsE l k := by rw [ptsE_succ, if_neg hpk]
                  rw [← hps] at HI
                  have k1 : (kd == 10) = false := by
                    have : kd ≠ 10 := fun e => hp (.inl e)
                    simpa using this
                  have k2 : (kd == 11) = false := by
                    have : kd ≠ 11 := fun e => hp (.inr e)
                    simpa using this
                  clear hps hpk hp HEV7
                  go_wp2
                  go_roundw
                  case rel => exact ⟨k + 1, _, hlt, by go_num, HI⟩
                  case measure => simp [intOf]; omega
            · obtain rfl : k = l.length := by omega
              have HD5 : Hid (WI W2 wr w.heap.size w.heap.size W2.heap.size hd (.slice Ab bl.length cb) (lsP (pts l bl) (ofL l (pts l bl) (List.range (pts l bl).length)))) := HI
              clear HI
              generalize wr = W5 at *
              have hpn := pts_len0 l bl
              obtain ⟨P, hP⟩ : ∃ P, P = pts l bl := ⟨_, rfl⟩
              obtain ⟨N, hN⟩ : ∃ N, N = P.length := ⟨_, rfl⟩
              obtain ⟨B, hB⟩ : ∃ B, B = baseA l bl lk := ⟨_, rfl⟩
              rw [← hP] at HD5 hpn
              rw [← hN] at HD5 hpn
              have HPP := Lib.hid hP
              have HNN := Lib.hid hN
              have HBB := Lib.hid hB
              obtain ⟨A0, m0, q0, hm0, hv0, hc0, hz1, hz2⟩ := HD5.out.cell (t := 0) (by omega)
              clear hz1 hz2
              have hl0 : m0 = N := by
                rw [hm0, hN]
                show (List.map _ _).length = _
                rw [List.length_map]
              subst hl0
              have HM0 := Lib.hid (WM.start HD5.out m0 (fun _ => 0) B)
              have hl5 := HD5.out.ex.size
              have HAT : Hid (∀ j, j < m0 → P[j]? = some (ptAt P j)) := fun j hj => by
                rw [hN] at hj
                simp [ptAt, List.getD, hj]
              have HBK : Hid (∀ j, j < m0 → ∀ a : Int, (ptAt P j).bk = a → 0 ≤ a → ∃ i : Nat, a = (i : Int) ∧ i < bl.length) := fun j hj a ha h0 => by
                rw [hN, hP] at hj
                rw [hP] at ha
                rcases pts_inv hj with ⟨i, a1, _, _, a4⟩ | ⟨i, _, _, _, a4⟩
                · rw [a4] at ha
                  exact ⟨i, ha.symm, a1⟩
                · rw [a4] at ha
                  change (-1 : Int) = a at ha
                  omega
              have HRB5 : Hid (RB W5 (w.heap.size + 1) W2.heap.size Ab bl.length bl hdB) := HD5.out.rb HRB.out (by omega)
              have HLK5 : Hid (OwnI W5 (w.heap.size + 1) Al cl (lks lk)) := HLK.out.ex HD5.out.ex (fun k hk e => by have := (World.ownsRow.lt HLK.out k hk).1; omega)
              have HLKB := Lib.hid (fun k hk => (World.ownsRow.lt HLK.out k hk).2)
              have hlen : ∀ t, t < 3 → (lsP P (ofL l P (List.range m0)) t).length = m0 := fun t ht => by
                have : t = 0 ∨ t = 1 ∨ t = 2 := by omega
                rcases this with rfl | rfl | rfl
                · show (List.map _ _).length = _
                  rw [List.length_map, ← hN]
                · show (List.map _ _).length = _
                  rw [List.length_map, ← hN]
                · show (List.map _ _).length = _
                  rw [List.length_map, ← hN]
              have HL0 := Lib.hid (hlen 0 (by omega))
              have HL1 := Lib.hid (hlen 1 (by omega))
              have HL2 := Lib.hid (hlen 2 (by omega))
              have HAT0 := Lib.hid (fun j (hj : j < m0) => lsP_at0 (of := ofL l P (List.range m0)) (HAT.out j hj))
              have HAT1 := Lib.hid (fun j (hj : j < m0) => lsP_at1 (of := ofL l P (List.range m0)) (HAT.out j hj))
              have HAT2 := Lib.hid (fun j (hj : j < m0) => lsP_at2 (of := ofL l P (List.range m0)) (HAT.out j hj))
              have HRBX : Hid (∀ W : World, Ex W5 W (fun j => j = w.heap.size) → RB W (w.heap.size + 1) W2.heap.size Ab bl.length bl hdB) := fun W hW => HRB5.out.keep fun p h1 h2 => hW.cell (by omega) (by show p.block ≠ w.heap.size; omega)
              have HLKX : Hid (∀ W : World, Ex W5 W (fun j => j = w.heap.size) → OwnI W (w.heap.size + 1) Al cl (lks lk)) := fun W hW => HLK5.out.ex hW (fun k hk e => by have := (World.ownsRow.lt HLK5.out k hk).1; omega)
              clear hm0 hv0 hP hN hB hlen
              go_wp2
              clear hc0
              go_loopw [12] (fun i wr => ∃ (p : Nat) (A : Option Addr) (c : Nat) (gr : Nat → Nat), p ≤ m0 ∧ i = .int .i64 p ∧ Hid (WM W5 wr w.heap.size hd A c m0 p gr B)) (fun i _ => m0 - (intOf i).toNat)
              case atStart => exact ⟨0, _, _, _, Nat.zero_le _, rfl, HM0⟩
              case round =>
                clear HM0
                obtain ⟨p, Aq, cq, gr, hpm, rfl, HM⟩ := hrel
                by_cases hlt : p < m0
                · as_aux_lemma =>
                    have hcq := HM.out.c4.1
                    have hfq := HM.out.c4.2
                    have hgW := HM.out.lt
                    have hsz := HM.out.ex.size
                    have hfar : ∀ j, (Value.slice Aq p cq).ownBlock = some j → W5.heap.size ≤ j := fun j hj => (World.ownsRow.lt HM.out.mb.row j hj).1
                    have HS : Hid (∀ W : World, Ex wr W (fun j => (Value.slice Aq p cq).ownBlock = some j) → ((W.cell? ⟨w.heap.size, 4, none⟩ = some (.slice Aq p cq) ∧ W.frozen? ⟨w.heap.size, 4, none⟩ = false) ∧ Ex wr W (fun j => (Value.slice Aq p cq).ownBlock = some j))) := fun W h => by
                      have hn : ¬ (Value.slice Aq p cq).ownBlock = some w.heap.size := fun e => by have := hfar _ e; omega
                      exact ⟨⟨(h.cell (p := ⟨w.heap.size, 4, none⟩) (by show w.heap.size < _; omega) hn).trans hcq, (World.frozen?_of_block (a := ⟨w.heap.size, 4, none⟩) (h.block w.heap.size (by omega) hn)).trans hfq⟩, h⟩
                    have HROW : Hid (wr.drew.ownsRow W5.heap.size 90 1 (.slice Aq p cq) p ((List.range p).map fun i => Value.slice (some ⟨gr i, 0, none⟩) m0 m0)) := own_keep HM.out.mb.row fun _ _ => rfl
                    have hmk := Go.run_make_row' (P := Try.prog) 90 4 (.bool false) 1 Try.underlying90 info4 rfl .i64 .i64 m0 (by omega) (by omega)
                    have hSt := HS.out wr.drew (Ex.refl wr _).drew
                    clear hfar hcq hfq
                    go_wp2
                    refine wp_region_C (S := fun W => (W.cell? ⟨w.heap.size, 4, none⟩ = some (.slice Aq p cq) ∧ W.frozen? ⟨w.heap.size, 4, none⟩ = false) ∧ Ex wr W (fun j => (Value.slice Aq p cq).ownBlock = some j)) 11 (by kernel_rfl) hSt (fun hHeld => ?_)
                    clear hSt
                    refine wpAnyC_take [11] (i := 0) (oi := _) (v := ?v33_0) rfl (by kernel_rfl) (by kernel_rfl) (by kernel_rfl) (by kernel_rfl) (fun _ _ _ h => h) (Or.inl ⟨by rfl, ?hy33_0⟩) (by assumption) ?rest33_0
                    case hy33_0 => ((intro w hSw; (try dsimp only at hSw); go_simp); (try with_reducible rfl))
                    (try simp only [Act.put, Array.getInternal_eq_getElem, List.getElem_toArray, List.getElem_cons_zero, List.getElem_cons_succ, List.setIfInBounds_toArray, List.set_cons_zero, List.set_cons_succ])
                    refine wpAnyC_take [11] (i := 1) (oi := _) (v := ?v33_1) rfl (by kernel_rfl) (by kernel_rfl) (by kernel_rfl) (by kernel_rfl) (fun _ _ _ h => h) (Or.inl ⟨by rfl, ?hy33_1⟩) (by assumption) ?rest33_1
                    case hy33_1 => ((intro w hSw; (try dsimp only at hSw); go_simp); (try with_reducible rfl))
                    (try simp only [Act.put, Array.getInternal_eq_getElem, List.getElem_toArray, List.getElem_cons_zero, List.getElem_cons_succ, List.setIfInBounds_toArray, List.set_cons_zero, List.set_cons_succ])
                    refine wpAnyC_take [11] (i := 2) (oi := _) (v := ?v33_2) rfl (by kernel_rfl) (by kernel_rfl) (by kernel_rfl) (by kernel_rfl) (fun _ _ _ h => h) (Or.inl ⟨by rfl, ?hy33_2⟩) (by assumption) ?rest33_2
                    case hy33_2 => ((intro w hSw; (try dsimp only at hSw); go_simp); (try with_reducible rfl))
                    (try simp only [Act.put, Array.getInternal_eq_getElem, List.getElem_toArray, List.getElem_cons_zero, List.getElem_cons_succ, List.setIfInBounds_toArray, List.set_cons_zero, List.set_cons_succ])
                    refine wpAnyC_take [11] (i := 3) (oi := _) (v := ?v33_3) rfl (by kernel_rfl) (by kernel_rfl) (by kernel_rfl) (by kernel_rfl) (fun _ _ _ h => h) (Or.inl ⟨by rfl, ?hy33_3⟩) (by assumption) ?rest33_3
                    case hy33_3 => ((intro w hSw; (try dsimp only at hSw); go_simp); (try with_reducible rfl))
                    (try simp only [Act.put, Array.getInternal_eq_getElem, List.getElem_toArray, List.getElem_cons_zero, List.getElem_cons_succ, List.setIfInBounds_toArray, List.set_cons_zero, List.set_cons_succ])
                    refine wpAnyC_take [11] (i := 4) (oi := _) (v := ?v33_4) rfl (by kernel_rfl) (by kernel_rfl) (by kernel_rfl) (by kernel_rfl) (fun _ _ _ h => h) (Or.inl ⟨by rfl, ?hy33_4⟩) (by assumption) ?rest33_4
                    case hy33_4 => ((intro w hSw; (try dsimp only at hSw); go_simp); (try with_reducible rfl))
                    (try simp only [Act.put, Array.getInternal_eq_getElem, List.getElem_toArray, List.getElem_cons_zero, List.getElem_cons_succ, List.setIfInBounds_toArray, List.set_cons_zero, List.set_cons_succ])
                    refine wpAnyC_take [11] (i := 5) (oi := _) (v := ?v33_5) rfl (by kernel_rfl) (by kernel_rfl) (by kernel_rfl) (by kernel_rfl) (fun _ _ _ h => h) (Or.inl ⟨by rfl, ?hy33_5⟩) (by assumption) ?rest33_5
                    case hy33_5 => ((intro w hSw; (try dsimp only at hSw); go_simp); (try with_reducible rfl))
                    (try simp only [Act.put, Array.getInternal_eq_getElem, List.getElem_toArray, List.getElem_cons_zero, List.getElem_cons_succ, List.setIfInBounds_toArray, List.set_cons_zero, List.set_cons_succ])
                    refine wpAnyC_one (i := 6) (o := _) (by kernel_rfl) rfl (fun K hK => ?_)
                    go_simp
                    refine hK.out _ _ (HS.out _ (hHeld.2.alloc _)) (fun hHeldN => ?_)
                    clear hK K hHeld
                    have hHeld := hHeldN
                    clear hHeldN
                    (try simp only [Act.put, Array.getInternal_eq_getElem, List.getElem_toArray, List.getElem_cons_zero, List.getElem_cons_succ, List.setIfInBounds_toArray, List.set_cons_zero, List.set_cons_succ])
                    refine wpAnyC_one (i := 7) (o := _) (by kernel_rfl) rfl (fun K hK => ?_)
                    go_simp
                    refine hK.out _ _ (HS.out _ (hHeld.2.alloc _)) (fun hHeldN => ?_)
                    clear hK K hHeld
                    have hHeld := hHeldN
                    clear hHeldN
                    (try simp only [Act.put, Array.getInternal_eq_getElem, List.getElem_toArray, List.getElem_cons_zero, List.getElem_cons_succ, List.setIfInBounds_toArray, List.set_cons_zero, List.set_cons_succ])
                    refine wpAnyC_one (i := 8) (o := _) (by kernel_rfl) rfl (fun K hK => ?_)
                    refine step_append_two _ (by rfl) (.tmp 211) (.tmp 214) 87 (by rfl) W5.heap.size 90 _ 1 24 info90 Try.underlying87 rfl (by decide) (.slice Aq p cq) p ((List.range p).map fun i => Value.slice (some ⟨gr i, 0, none⟩) m0 m0) (by rfl) ((HROW.out.alloc _).alloc _) (wr.heap.size + 1) 1 [.slice (some ⟨wr.heap.size, 0, none⟩) m0 m0] (by rfl) (heap_at _ _ _ (by simp)) rfl (by simp [Value.oneCell']) (by omega) (by omega) (by simp; omega) ?_
                    intro g cap2 w3 hown hlt3 htwo
                    have hgx : wr.grownBy ((wr.drew.alloc (.cells (madeCells #[.bool false] m0) 4)).alloc (.cells #[.slice (some ⟨wr.heap.size, 0, none⟩) m0 m0] 90)) (Value.slice Aq p cq).ownBlock := grown_trans (grown_trans (grown_drew _ _) (World.grownBy_alloc _ _ _)) (World.grownBy_alloc _ _ _)
                    have hgr := grown_trans hgx (two_grown htwo)
                    refine hK.out _ _ (HS.out _ ((Ex.refl wr _).grown hgr (fun _ h _ => h))) (fun hHeldN => ?_)
                    clear hK K hHeld
                    have hHeld := hHeldN
                    clear hHeldN
                    (try simp only [Act.put, Array.getInternal_eq_getElem, List.getElem_toArray, List.getElem_cons_zero, List.getElem_cons_succ, List.setIfInBounds_toArray, List.set_cons_zero, List.set_cons_succ])
                    refine wpAnyC_take [11, 10] (i := 9) (oi := _) (v := ?v33_9) rfl (by kernel_rfl) (by kernel_rfl) (by kernel_rfl) (by kernel_rfl) (fun _ _ _ h => h) (Or.inl ⟨by rfl, ?hy33_9⟩) (by assumption) ?rest33_9
                    case hy33_9 => ((intro w hSw; (try dsimp only at hSw); go_simp); (try with_reducible rfl))
                    (try simp only [Act.put, Array.getInternal_eq_getElem, List.getElem_toArray, List.getElem_cons_zero, List.getElem_cons_succ, List.setIfInBounds_toArray, List.set_cons_zero, List.set_cons_succ])
                    refine wpAnyC_take [11] (i := 10) (oi := _) (v := ?v33_10) rfl (by kernel_rfl) (by kernel_rfl) (by kernel_rfl) (by kernel_rfl) (fun _ _ _ h => h) (Or.inl ⟨by rfl, ?hy33_10⟩) (by assumption) ?rest33_10
                    case hy33_10 => ((intro w hSw; (try dsimp only at hSw); go_simp); (try with_reducible rfl))
                    (try simp only [Act.put, Array.getInternal_eq_getElem, List.getElem_toArray, List.getElem_cons_zero, List.getElem_cons_succ, List.setIfInBounds_toArray, List.set_cons_zero, List.set_cons_succ])
                    refine wpAnyC_last (o := _) (by kernel_rfl) rfl (fun K hK => ?_)
                    go_simp
                    refine hK.out _ _ ?_
                    clear hK K
                    refine wpAnyC_done (by kernel_rfl) ?_ _
                    have HMB : Hid (WM W5 wr w.heap.size hd Aq cq m0 p gr (bP B p 0)) := HM.out.congr fun i j hi _ => by unfold bP; rw [if_pos (.inl hi)]
                    have he1 : Ex wr ((wr.drew.alloc (.cells (madeCells #[.bool false] m0) 4)).alloc (.cells #[.slice (some ⟨wr.heap.size, 0, none⟩) m0 m0] 90)) (fun _ => False) := ((Ex.refl wr _).drew.alloc _).alloc _
                    have hmade : Blk ((wr.drew.alloc (.cells (madeCells #[.bool false] m0) 4)).alloc (.cells #[.slice (some ⟨wr.heap.size, 0, none⟩) m0 m0] 90)) W5.heap.size 4 wr.heap.size m0 (fun j => .bool (bP B p 0 p j)) :=
                      (((Blk.made wr.drew m0).kept (Below.heap_alloc _ _ _ (by simp))).base' hsz).congr fun j _ => by unfold bP; rw [if_neg (by omega)]
                    obtain ⟨hM1, hz1, hz2⟩ := HMB.out.push (b := wr.heap.size) (Nat.le_refl _) (fun j hj => he1.block j hj (fun h => h)) he1 hmade (two_grown htwo) hown
                    have HM1 := Lib.hid hM1
                    clear hM1 hz1 hz2 hHeld hmade he1 HMB HM hown htwo hgx hgr hlt3 HS HROW hmk
                    generalize (w3.setCell ⟨w.heap.size, 4, none⟩ (.slice (some ⟨g, 0, none⟩) (p + 1) cap2)) = w4 at *
                    obtain ⟨gr1, hgr1⟩ : ∃ f : Nat → Nat, f = (fun i => if i = p then wr.heap.size else gr i) := ⟨_, rfl⟩
                    rw [← hgr1] at HM1
                    clear hgr1 hsz hgW
                    generalize cap2 = c1 at *
                    go_wp2
                    go_loopw [13] (fun i w6 => ∃ q : Nat, q ≤ m0 ∧ i = .int .i64 q ∧ Hid (WM W5 w6 w.heap.size hd (some ⟨g, 0, none⟩) c1 m0 (p + 1) gr1 (bP B p q))) (fun i _ => m0 - (intOf i).toNat)
                    case atStart => exact ⟨0, Nat.zero_le _, rfl, HM1⟩
                    case round =>
                      clear HM1
                      obtain ⟨q, hqm, rfl, HM⟩ := hrel
                      by_cases hltq : q < m0
                      · as_aux_lemma =>
                          obtain ⟨a0, r0, hc0, hr0⟩ := HM.out.at_ HD5.out.dw (t := 0) (by omega)
                          obtain ⟨a1, r1, hc1, hr1⟩ := HM.out.at_ HD5.out.dw (t := 1) (by omega)
                          rw [HL0.out] at hc0
                          rw [HL1.out] at hc1
                          obtain ⟨g0, hA0, hz0, htp⟩ := hr0 p _ (HAT0.out p hlt)
                          obtain ⟨g0', hA0', hz0', htq⟩ := hr0 q _ (HAT0.out q hltq)
                          subst hA0
                          injection hA0' with hA0'
                          injection hA0' with hA0'
                          subst hA0'
                          obtain ⟨g1, hA1, hz1, hfp⟩ := hr1 p _ (HAT1.out p hlt)
                          obtain ⟨g1', hA1', hz1', hfq⟩ := hr1 q _ (HAT1.out q hltq)
                          subst hA1
                          injection hA1' with hA1'
                          injection hA1' with hA1'
                          subst hA1'
                          have hbv : B p q = ((decide ((ptAt P p).th = (ptAt P q).th) && decide ((ptAt P p).fi < (ptAt P q).fi)) || (decide (p ≠ q) && decide (0 ≤ (ptAt P p).bk) && decide (0 ≤ (ptAt P q).bk) && befL bl lk (ptAt P p).bk.toNat (ptAt P q).bk.toNat)) := by
                            rw [HBB.out, HPP.out]
                            unfold baseA
                            rw [← HPP.out, ← HNN.out, decide_eq_true (And.intro hlt hltq), Bool.true_and]
                          obtain ⟨tp, hTP⟩ : ∃ x, (ptAt P p).th = x := ⟨_, rfl⟩
                          obtain ⟨tq, hTQ⟩ : ∃ x, (ptAt P q).th = x := ⟨_, rfl⟩
                          obtain ⟨fp, hFP⟩ : ∃ x, (ptAt P p).fi = x := ⟨_, rfl⟩
                          obtain ⟨fq, hFQ⟩ : ∃ x, (ptAt P q).fi = x := ⟨_, rfl⟩
                          obtain ⟨bp, hBP⟩ : ∃ x, (ptAt P p).bk = x := ⟨_, rfl⟩
                          obtain ⟨bq, hBQ⟩ : ∃ x, (ptAt P q).bk = x := ⟨_, rfl⟩
                          rw [hBP, hBQ, hTP, hTQ, hFP, hFQ] at hbv
                          rw [hTP] at htp
                          rw [hTQ] at htq
                          rw [hFP] at hfp
                          rw [hFQ] at hfq
                          have HBV := Lib.hid hbv
                          have HBPE := Lib.hid hBP
                          have HBQE := Lib.hid hBQ
                          have i1 : (0 : Int) ≤ (p : Int) := by omega
                          have i2 : (p : Int) < (m0 : Int) := by omega
                          have i3 : (0 : Int) ≤ (q : Int) := by omega
                          have i4 : (q : Int) < (m0 : Int) := by omega
                          have i6 : (p : Int) < (p : Int) + 1 := by omega
                          clear hr0 hr1 hz0 hz0' hz1 hz1' hbv hTP hTQ hFP hFQ hBP hBQ
                          by_cases hth : tp = tq
                          · subst hth
                            by_cases hfi : fp < fq
                            · as_aux_lemma =>
                                have k2 : (fp : Int) < (fq : Int) := by omega
                                go_wp2
                                go_quiet (fail)
                                have HM1 := Lib.hid (HM.out.drewN nq)
                                clear HM hc0 hc1 htp htq hfp hfq
                                generalize wr.drewN nq = w5 at *
                                have hcw := HM1.out.c4.1
                                obtain ⟨ga, hga, hz1, hrow, hz2, hcl⟩ := HM1.out.mb.at_ (p := p) (by omega)
                                injection hga with hga
                                injection hga with hga
                                subst hga
                                obtain ⟨hcv, hcf⟩ := hcl q hltq
                                have HM2 := Lib.hid (HM1.out.set (p := p) (by omega) q true)
                                clear hz1 hz2 hcl HM1
                                go_upto_region 39 with fail
                                clear hcw hrow hcv hcf
                                generalize (w5.setCell ⟨gr1 p, q, none⟩ (.bool true)) = w6 at *
                                obtain ⟨a2, r2, hc2, hr2⟩ := HM2.out.at_ HD5.out.dw (t := 2) (by omega)
                                rw [HL2.out] at hc2
                                obtain ⟨g2, hA2, hz1, hbp⟩ := hr2 p _ (HAT2.out p hlt)
                                obtain ⟨g2', hA2', hz2, hbq⟩ := hr2 q _ (HAT2.out q hltq)
                                subst hA2
                                injection hA2' with hA2'
                                injection hA2' with hA2'
                                subst hA2'
                                have hgba := HBK.out p hlt
                                have hgbb := HBK.out q hltq
                                rw [HBPE.out] at hbp
                                rw [HBQE.out] at hbq
                                clear hr2 hz1 hz2
                                by_cases hpq : p = q
                                · as_aux_lemma =>
                                    have k3 : ((p : Int) != (q : Int)) = false := by simp; omega
                                    have hf : B p q = true := by
                                      rw [HBV.out]
                                      simp [hfi, hpq]
                                    have HFF := Lib.hid hf
                                    clear hgba hgbb hf hpq
                                    go_wp2
                                    go_quiet (fail)
                                    have HM9 := Lib.hid ((HM2.out.drewN nq).congr (M' := bP B p (q + 1)) fun i j _ _ => congrFun (congrFun (bP_step B p q _ HFF.out) i) j)
                                    clear HFF HM2 hbp hbq hc2
                                    generalize w6.drewN nq = w7 at *
                                    go_wp2
                                    go_roundw
                                    case rel => exact ⟨q + 1, by omega, by go_num, HM9⟩
                                    case measure => simp [intOf]; omega
                                · have k3 : ((p : Int) != (q : Int)) = true := by simp; omega
                                  by_cases ha : 0 ≤ bp
                                  · by_cases hb : 0 ≤ bq
                                    · as_aux_lemma =>
                                        obtain ⟨ia, hia0, hia⟩ := hgba _ HBPE.out ha
                                        obtain ⟨ib, hib0, hib⟩ := hgbb _ HBQE.out hb
                                        have hf : B p q = (true || befL bl lk ia ib) := by
                                          rw [HBV.out, hia0, hib0]
                                          simp [hfi, hpq]
                                        have HFB := Lib.hid hf
                                        subst hia0 hib0
                                        clear hgba hgbb hf HBPE HBQE HBV
                                        go_wp2
                                        go_quiet (fail)
                                        have HM3 := Lib.hid (HM2.out.drewN nq)
                                        clear HM2 hbp hbq hc2
                                        generalize w6.drewN nq = w7 at *
                                        obtain ⟨gB, _, _, _, _, _, _, ⟨hA, _⟩, _⟩ := rb_at (HRBX.out _ HM3.out.ex) hia
                                        subst hA
                                        obtain ⟨Ar, nr, cr, At, nt, ct, hbc⟩ := rb_cell (HRBX.out _ HM3.out.ex) hia
                                        obtain ⟨Ar', nr', cr', At', nt', ct', hbd⟩ := rb_cell (HRBX.out _ HM3.out.ex) hib
                                        obtain ⟨gL, hAL, _, hlka⟩ := own_at (HLKX.out _ HM3.out.ex) (Nat.le_refl _) (Below.refl _ _) (i := ia) (by rw [HLKL.out]; exact hia)
                                        obtain ⟨gL', hAL', _, hlkb⟩ := own_at (HLKX.out _ HM3.out.ex) (Nat.le_refl _) (Below.refl _ _) (i := ib) (by rw [HLKL.out]; exact hib)
                                        subst hAL
                                        injection hAL' with hAL'
                                        injection hAL' with hAL'
                                        subst hAL'
                                        have hbf := fun W => before_any (blAt bl ia) (blAt bl ib) ((lk.getD ia 0 : Nat) : Int) ((lk.getD ib 0 : Nat) : Int) (.slice Ar nr cr) (.slice At nt ct) (.slice Ar' nr' cr') (.slice At' nt' ct') W
                                        rw [show BefB (blAt bl ia) ((lk.getD ia 0 : Nat) : Int) (blAt bl ib) ((lk.getD ib 0 : Nat) : Int) = befL bl lk ia ib from rfl] at hbf
                                        generalize blAt bl ia = ba at *
                                        generalize blAt bl ib = bb at *
                                        generalize ((lk.getD ia 0 : Nat) : Int) = xa at *
                                        generalize ((lk.getD ib 0 : Nat) : Int) = xb at *
                                        generalize befL bl lk ia ib = bef at *
                                        obtain ⟨c0, c1, c2, c3, c4, c5, c6, c7, c8⟩ := hbc
                                        obtain ⟨d0, d1, d2, d3, d4, d5, d6, d7, d8⟩ := hbd
                                        have HBF := Lib.hid hbf
                                        have j1 : (0 : Int) ≤ (ia : Int) := by omega
                                        have j2 : (ia : Int) < (bl.length : Int) := by omega
                                        have j3 : (0 : Int) ≤ (ib : Int) := by omega
                                        have j4 : (ib : Int) < (bl.length : Int) := by omega
                                        have j5 : (ia : Int) < (lk.length : Int) := by rw [HLKL.out]; omega
                                        have j6 : (ib : Int) < (lk.length : Int) := by rw [HLKL.out]; omega
                                        clear hbf
                                        go_wp2
                                        go_still_tail 16, (by kernel_rfl)
                                        change wpList _ _ _ _ _ w7.drew
                                        go_wp2_with (go_at_call 65; refine halt_ ?_)
                                        refine Halt_.go ?_
                                        refine (HBF.out _).mono ?_
                                        rintro e' w8 ⟨rfl, hb8⟩
                                        have HM8 := Lib.hid (HM3.out.drew.below hb8)
                                        clear hb8 HBF HM3 c0 c1 c2 c3 c4 c5 c6 c7 c8 d0 d1 d2 d3 d4 d5 d6 d7 d8 hlka hlkb j1 j2 j3 j4 j5 j6
                                        have hcw := HM8.out.c4.1
                                        obtain ⟨ga, hga, hz1, hrow, hz2, hcl⟩ := HM8.out.mb.at_ (p := p) (by omega)
                                        injection hga with hga
                                        injection hga with hga
                                        subst hga
                                        obtain ⟨hcv, hcf⟩ := hcl q hltq
                                        have hcv2 : w8.cell? ⟨gr1 p, q, none⟩ = some (.bool true) := by rw [hcv]; simp
                                        have HM9 := Lib.hid (((HM8.out.set (p := p) (by omega) q (true)).congr (M' := bP B p (q + 1)) fun i j _ _ => (ifif _ _ _ _).trans (congrFun (congrFun (bP_step B p q (true) (by rw [HFB.out]; simp)) i) j)))
                                        clear hcl hcv HM8 HFB hz1 hz2
                                        go_wp2
                                        go_still_tail 21, (by kernel_rfl)
                                        change wpList _ _ _ _ _ w8.drew
                                        go_wp2
                                        go_roundw
                                        case rel => exact ⟨q + 1, by omega, by go_num, HM9.out.drew⟩
                                        case measure => simp [intOf]; omega
                                    · as_aux_lemma =>
                                        have hb2 : bq < 0 := by omega
                                        have hf : B p q = true := by
                                          rw [HBV.out]
                                          simp [hfi, Int.not_le.2 hb2]
                                        have HFF := Lib.hid hf
                                        clear hgba hgbb hf hb
                                        go_wp2
                                        go_quiet (fail)
                                        have HM9 := Lib.hid ((HM2.out.drewN nq).congr (M' := bP B p (q + 1)) fun i j _ _ => congrFun (congrFun (bP_step B p q _ HFF.out) i) j)
                                        clear HFF HM2 hbp hbq hc2
                                        generalize w6.drewN nq = w7 at *
                                        go_wp2
                                        go_roundw
                                        case rel => exact ⟨q + 1, by omega, by go_num, HM9⟩
                                        case measure => simp [intOf]; omega
                                  · as_aux_lemma =>
                                      have ha2 : bp < 0 := by omega
                                      have hf : B p q = true := by
                                        rw [HBV.out]
                                        simp [hfi, Int.not_le.2 ha2]
                                      have HFF := Lib.hid hf
                                      clear hgba hgbb hf ha
                                      go_wp2
                                      go_quiet (fail)
                                      have HM9 := Lib.hid ((HM2.out.drewN nq).congr (M' := bP B p (q + 1)) fun i j _ _ => congrFun (congrFun (bP_step B p q _ HFF.out) i) j)
                                      clear HFF HM2 hbp hbq hc2
                                      generalize w6.drewN nq = w7 at *
                                      go_wp2
                                      go_roundw
                                      case rel => exact ⟨q + 1, by omega, by go_num, HM9⟩
                                      case measure => simp [intOf]; omega
                            · as_aux_lemma =>
                                have k2 : ¬ (fp : Int) < (fq : Int) := by omega
                                go_wp2
                                go_quiet (fail)
                                have HM2 := Lib.hid ((HM.out.drewN nq).congr (M' := fun i j => if i = p ∧ j = q then false else bP B p q i j) fun i j _ _ => (ifat (bP B p q) p q i j (bP_at B p q)))
                                clear HM hc0 hc1 htp htq hfp hfq
                                generalize wr.drewN nq = w6 at *
                                go_upto_region 39 with fail
                                obtain ⟨a2, r2, hc2, hr2⟩ := HM2.out.at_ HD5.out.dw (t := 2) (by omega)
                                rw [HL2.out] at hc2
                                obtain ⟨g2, hA2, hz1, hbp⟩ := hr2 p _ (HAT2.out p hlt)
                                obtain ⟨g2', hA2', hz2, hbq⟩ := hr2 q _ (HAT2.out q hltq)
                                subst hA2
                                injection hA2' with hA2'
                                injection hA2' with hA2'
                                subst hA2'
                                have hgba := HBK.out p hlt
                                have hgbb := HBK.out q hltq
                                rw [HBPE.out] at hbp
                                rw [HBQE.out] at hbq
                                clear hr2 hz1 hz2
                                by_cases hpq : p = q
                                · as_aux_lemma =>
                                    have k3 : ((p : Int) != (q : Int)) = false := by simp; omega
                                    have hf : B p q = false := by
                                      rw [HBV.out]
                                      simp [hfi, hpq]
                                    have HFF := Lib.hid hf
                                    clear hgba hgbb hf hpq
                                    go_wp2
                                    go_quiet (fail)
                                    have HM9 := Lib.hid ((HM2.out.drewN nq).congr (M' := bP B p (q + 1)) fun i j _ _ => congrFun (congrFun (bP_step B p q _ HFF.out) i) j)
                                    clear HFF HM2 hbp hbq hc2
                                    generalize w6.drewN nq = w7 at *
                                    go_wp2
                                    go_roundw
                                    case rel => exact ⟨q + 1, by omega, by go_num, HM9⟩
                                    case measure => simp [intOf]; omega
                                · have k3 : ((p : Int) != (q : Int)) = true := by simp; omega
                                  by_cases ha : 0 ≤ bp
                                  · by_cases hb : 0 ≤ bq
                                    · as_aux_lemma =>
                                        obtain ⟨ia, hia0, hia⟩ := hgba _ HBPE.out ha
                                        obtain ⟨ib, hib0, hib⟩ := hgbb _ HBQE.out hb
                                        have hf : B p q = (false || befL bl lk ia ib) := by
                                          rw [HBV.out, hia0, hib0]
                                          simp [hfi, hpq]
                                        have HFB := Lib.hid hf
                                        subst hia0 hib0
                                        clear hgba hgbb hf HBPE HBQE HBV
                                        go_wp2
                                        go_quiet (fail)
                                        have HM3 := Lib.hid (HM2.out.drewN nq)
                                        clear HM2 hbp hbq hc2
                                        generalize w6.drewN nq = w7 at *
                                        obtain ⟨gB, _, _, _, _, _, _, ⟨hA, _⟩, _⟩ := rb_at (HRBX.out _ HM3.out.ex) hia
                                        subst hA
                                        obtain ⟨Ar, nr, cr, At, nt, ct, hbc⟩ := rb_cell (HRBX.out _ HM3.out.ex) hia
                                        obtain ⟨Ar', nr', cr', At', nt', ct', hbd⟩ := rb_cell (HRBX.out _ HM3.out.ex) hib
                                        obtain ⟨gL, hAL, _, hlka⟩ := own_at (HLKX.out _ HM3.out.ex) (Nat.le_refl _) (Below.refl _ _) (i := ia) (by rw [HLKL.out]; exact hia)
                                        obtain ⟨gL', hAL', _, hlkb⟩ := own_at (HLKX.out _ HM3.out.ex) (Nat.le_refl _) (Below.refl _ _) (i := ib) (by rw [HLKL.out]; exact hib)
                                        subst hAL
                                        injection hAL' with hAL'
                                        injection hAL' with hAL'
                                        subst hAL'
                                        have hbf := fun W => before_any (blAt bl ia) (blAt bl ib) ((lk.getD ia 0 : Nat) : Int) ((lk.getD ib 0 : Nat) : Int) (.slice Ar nr cr) (.slice At nt ct) (.slice Ar' nr' cr') (.slice At' nt' ct') W
                                        rw [show BefB (blAt bl ia) ((lk.getD ia 0 : Nat) : Int) (blAt bl ib) ((lk.getD ib 0 : Nat) : Int) = befL bl lk ia ib from rfl] at hbf
                                        generalize blAt bl ia = ba at *
                                        generalize blAt bl ib = bb at *
                                        generalize ((lk.getD ia 0 : Nat) : Int) = xa at *
                                        generalize ((lk.getD ib 0 : Nat) : Int) = xb at *
                                        generalize befL bl lk ia ib = bef at *
                                        obtain ⟨c0, c1, c2, c3, c4, c5, c6, c7, c8⟩ := hbc
                                        obtain ⟨d0, d1, d2, d3, d4, d5, d6, d7, d8⟩ := hbd
                                        have HBF := Lib.hid hbf
                                        have j1 : (0 : Int) ≤ (ia : Int) := by omega
                                        have j2 : (ia : Int) < (bl.length : Int) := by omega
                                        have j3 : (0 : Int) ≤ (ib : Int) := by omega
                                        have j4 : (ib : Int) < (bl.length : Int) := by omega
                                        have j5 : (ia : Int) < (lk.length : Int) := by rw [HLKL.out]; omega
                                        have j6 : (ib : Int) < (lk.length : Int) := by rw [HLKL.out]; omega
                                        clear hbf
                                        go_wp2
                                        go_still_tail 16, (by kernel_rfl)
                                        change wpList _ _ _ _ _ w7.drew
                                        go_wp2_with (go_at_call 65; refine halt_ ?_)
                                        refine Halt_.go ?_
                                        refine (HBF.out _).mono ?_
                                        rintro e' w8 ⟨rfl, hb8⟩
                                        have HM8 := Lib.hid (HM3.out.drew.below hb8)
                                        clear hb8 HBF HM3 c0 c1 c2 c3 c4 c5 c6 c7 c8 d0 d1 d2 d3 d4 d5 d6 d7 d8 hlka hlkb j1 j2 j3 j4 j5 j6
                                        have hcw := HM8.out.c4.1
                                        obtain ⟨ga, hga, hz1, hrow, hz2, hcl⟩ := HM8.out.mb.at_ (p := p) (by omega)
                                        injection hga with hga
                                        injection hga with hga
                                        subst hga
                                        obtain ⟨hcv, hcf⟩ := hcl q hltq
                                        have hcv2 : w8.cell? ⟨gr1 p, q, none⟩ = some (.bool false) := by rw [hcv]; simp
                                        have HM9 := Lib.hid (((HM8.out.set (p := p) (by omega) q (bef)).congr (M' := bP B p (q + 1)) fun i j _ _ => (ifif _ _ _ _).trans (congrFun (congrFun (bP_step B p q (bef) (by rw [HFB.out]; simp)) i) j)))
                                        clear hcl hcv HM8 HFB hz1 hz2
                                        go_wp2
                                        go_still_tail 21, (by kernel_rfl)
                                        change wpList _ _ _ _ _ w8.drew
                                        go_wp2
                                        go_roundw
                                        case rel => exact ⟨q + 1, by omega, by go_num, HM9.out.drew⟩
                                        case measure => simp [intOf]; omega
                                    · as_aux_lemma =>
                                        have hb2 : bq < 0 := by omega
                                        have hf : B p q = false := by
                                          rw [HBV.out]
                                          simp [hfi, Int.not_le.2 hb2]
                                        have HFF := Lib.hid hf
                                        clear hgba hgbb hf hb
                                        go_wp2
                                        go_quiet (fail)
                                        have HM9 := Lib.hid ((HM2.out.drewN nq).congr (M' := bP B p (q + 1)) fun i j _ _ => congrFun (congrFun (bP_step B p q _ HFF.out) i) j)
                                        clear HFF HM2 hbp hbq hc2
                                        generalize w6.drewN nq = w7 at *
                                        go_wp2
                                        go_roundw
                                        case rel => exact ⟨q + 1, by omega, by go_num, HM9⟩
                                        case measure => simp [intOf]; omega
                                  · as_aux_lemma =>
                                      have ha2 : bp < 0 := by omega
                                      have hf : B p q = false := by
                                        rw [HBV.out]
                                        simp [hfi, Int.not_le.2 ha2]
                                      have HFF := Lib.hid hf
                                      clear hgba hgbb hf ha
                                      go_wp2
                                      go_quiet (fail)
                                      have HM9 := Lib.hid ((HM2.out.drewN nq).congr (M' := bP B p (q + 1)) fun i j _ _ => congrFun (congrFun (bP_step B p q _ HFF.out) i) j)
                                      clear HFF HM2 hbp hbq hc2
                                      generalize w6.drewN nq = w7 at *
                                      go_wp2
                                      go_roundw
                                      case rel => exact ⟨q + 1, by omega, by go_num, HM9⟩
                                      case measure => simp [intOf]; omega
                          · as_aux_lemma =>
                              have k1 : (tp == tq) = false := by simpa using hth
                              go_wp2
                              go_quiet (fail)
                              have HM2 := Lib.hid ((HM.out.drewN nq).congr (M' := fun i j => if i = p ∧ j = q then false else bP B p q i j) fun i j _ _ => (ifat (bP B p q) p q i j (bP_at B p q)))
                              clear HM hc0 hc1 htp htq hfp hfq
                              generalize wr.drewN nq = w6 at *
                              go_upto_region 39 with fail
                              obtain ⟨a2, r2, hc2, hr2⟩ := HM2.out.at_ HD5.out.dw (t := 2) (by omega)
                              rw [HL2.out] at hc2
                              obtain ⟨g2, hA2, hz1, hbp⟩ := hr2 p _ (HAT2.out p hlt)
                              obtain ⟨g2', hA2', hz2, hbq⟩ := hr2 q _ (HAT2.out q hltq)
                              subst hA2
                              injection hA2' with hA2'
                              injection hA2' with hA2'
                              subst hA2'
                              have hgba := HBK.out p hlt
                              have hgbb := HBK.out q hltq
                              rw [HBPE.out] at hbp
                              rw [HBQE.out] at hbq
                              clear hr2 hz1 hz2
                              by_cases hpq : p = q
                              · as_aux_lemma =>
                                  have k3 : ((p : Int) != (q : Int)) = false := by simp; omega
                                  have hf : B p q = false := by
                                    rw [HBV.out]
                                    simp [hth, hpq]
                                  have HFF := Lib.hid hf
                                  clear hgba hgbb hf hpq
                                  go_wp2
                                  go_quiet (fail)
                                  have HM9 := Lib.hid ((HM2.out.drewN nq).congr (M' := bP B p (q + 1)) fun i j _ _ => congrFun (congrFun (bP_step B p q _ HFF.out) i) j)
                                  clear HFF HM2 hbp hbq hc2
                                  generalize w6.drewN nq = w7 at *
                                  go_wp2
                                  go_roundw
                                  case rel => exact ⟨q + 1, by omega, by go_num, HM9⟩
                                  case measure => simp [intOf]; omega
                              · have k3 : ((p : Int) != (q : Int)) = true := by simp; omega
                                by_cases ha : 0 ≤ bp
                                · by_cases hb : 0 ≤ bq
                                  · as_aux_lemma =>
                                      obtain ⟨ia, hia0, hia⟩ := hgba _ HBPE.out ha
                                      obtain ⟨ib, hib0, hib⟩ := hgbb _ HBQE.out hb
                                      have hf : B p q = (false || befL bl lk ia ib) := by
                                        rw [HBV.out, hia0, hib0]
                                        simp [hth, hpq]
                                      have HFB := Lib.hid hf
                                      subst hia0 hib0
                                      clear hgba hgbb hf HBPE HBQE HBV
                                      go_wp2
                                      go_quiet (fail)
                                      have HM3 := Lib.hid (HM2.out.drewN nq)
                                      clear HM2 hbp hbq hc2
                                      generalize w6.drewN nq = w7 at *
                                      obtain ⟨gB, _, _, _, _, _, _, ⟨hA, _⟩, _⟩ := rb_at (HRBX.out _ HM3.out.ex) hia
                                      subst hA
                                      obtain ⟨Ar, nr, cr, At, nt, ct, hbc⟩ := rb_cell (HRBX.out _ HM3.out.ex) hia
                                      obtain ⟨Ar', nr', cr', At', nt', ct', hbd⟩ := rb_cell (HRBX.out _ HM3.out.ex) hib
                                      obtain ⟨gL, hAL, _, hlka⟩ := own_at (HLKX.out _ HM3.out.ex) (Nat.le_refl _) (Below.refl _ _) (i := ia) (by rw [HLKL.out]; exact hia)
                                      obtain ⟨gL', hAL', _, hlkb⟩ := own_at (HLKX.out _ HM3.out.ex) (Nat.le_refl _) (Below.refl _ _) (i := ib) (by rw [HLKL.out]; exact hib)
                                      subst hAL
                                      injection hAL' with hAL'
                                      injection hAL' with hAL'
                                      subst hAL'
                                      have hbf := fun W => before_any (blAt bl ia) (blAt bl ib) ((lk.getD ia 0 : Nat) : Int) ((lk.getD ib 0 : Nat) : Int) (.slice Ar nr cr) (.slice At nt ct) (.slice Ar' nr' cr') (.slice At' nt' ct') W
                                      rw [show BefB (blAt bl ia) ((lk.getD ia 0 : Nat) : Int) (blAt bl ib) ((lk.getD ib 0 : Nat) : Int) = befL bl lk ia ib from rfl] at hbf
                                      generalize blAt bl ia = ba at *
                                      generalize blAt bl ib = bb at *
                                      generalize ((lk.getD ia 0 : Nat) : Int) = xa at *
                                      generalize ((lk.getD ib 0 : Nat) : Int) = xb at *
                                      generalize befL bl lk ia ib = bef at *
                                      obtain ⟨c0, c1, c2, c3, c4, c5, c6, c7, c8⟩ := hbc
                                      obtain ⟨d0, d1, d2, d3, d4, d5, d6, d7, d8⟩ := hbd
                                      have HBF := Lib.hid hbf
                                      have j1 : (0 : Int) ≤ (ia : Int) := by omega
                                      have j2 : (ia : Int) < (bl.length : Int) := by omega
                                      have j3 : (0 : Int) ≤ (ib : Int) := by omega
                                      have j4 : (ib : Int) < (bl.length : Int) := by omega
                                      have j5 : (ia : Int) < (lk.length : Int) := by rw [HLKL.out]; omega
                                      have j6 : (ib : Int) < (lk.length : Int) := by rw [HLKL.out]; omega
                                      clear hbf
                                      go_wp2
                                      go_still_tail 16, (by kernel_rfl)
                                      change wpList _ _ _ _ _ w7.drew
                                      go_wp2_with (go_at_call 65; refine halt_ ?_)
                                      refine Halt_.go ?_
                                      refine (HBF.out _).mono ?_
                                      rintro e' w8 ⟨rfl, hb8⟩
                                      have HM8 := Lib.hid (HM3.out.drew.below hb8)
                                      clear hb8 HBF HM3 c0 c1 c2 c3 c4 c5 c6 c7 c8 d0 d1 d2 d3 d4 d5 d6 d7 d8 hlka hlkb j1 j2 j3 j4 j5 j6
                                      have hcw := HM8.out.c4.1
                                      obtain ⟨ga, hga, hz1, hrow, hz2, hcl⟩ := HM8.out.mb.at_ (p := p) (by omega)
                                      injection hga with hga
                                      injection hga with hga
                                      subst hga
                                      obtain ⟨hcv, hcf⟩ := hcl q hltq
                                      have hcv2 : w8.cell? ⟨gr1 p, q, none⟩ = some (.bool false) := by rw [hcv]; simp
                                      have HM9 := Lib.hid (((HM8.out.set (p := p) (by omega) q (bef)).congr (M' := bP B p (q + 1)) fun i j _ _ => (ifif _ _ _ _).trans (congrFun (congrFun (bP_step B p q (bef) (by rw [HFB.out]; simp)) i) j)))
                                      clear hcl hcv HM8 HFB hz1 hz2
                                      go_wp2
                                      go_still_tail 21, (by kernel_rfl)
                                      change wpList _ _ _ _ _ w8.drew
                                      go_wp2
                                      go_roundw
                                      case rel => exact ⟨q + 1, by omega, by go_num, HM9.out.drew⟩
                                      case measure => simp [intOf]; omega
                                  · as_aux_lemma =>
                                      have hb2 : bq < 0 := by omega
                                      have hf : B p q = false := by
                                        rw [HBV.out]
                                        simp [hth, Int.not_le.2 hb2]
                                      have HFF := Lib.hid hf
                                      clear hgba hgbb hf hb
                                      go_wp2
                                      go_quiet (fail)
                                      have HM9 := Lib.hid ((HM2.out.drewN nq).congr (M' := bP B p (q + 1)) fun i j _ _ => congrFun (congrFun (bP_step B p q _ HFF.out) i) j)
                                      clear HFF HM2 hbp hbq hc2
                                      generalize w6.drewN nq = w7 at *
                                      go_wp2
                                      go_roundw
                                      case rel => exact ⟨q + 1, by omega, by go_num, HM9⟩
                                      case measure => simp [intOf]; omega
                                · as_aux_lemma =>
                                    have ha2 : bp < 0 := by omega
                                    have hf : B p q = false := by
                                      rw [HBV.out]
                                      simp [hth, Int.not_le.2 ha2]
                                    have HFF := Lib.hid hf
                                    clear hgba hgbb hf ha
                                    go_wp2
                                    go_quiet (fail)
                                    have HM9 := Lib.hid ((HM2.out.drewN nq).congr (M' := bP B p (q + 1)) fun i j _ _ => congrFun (congrFun (bP_step B p q _ HFF.out) i) j)
                                    clear HFF HM2 hbp hbq hc2
                                    generalize w6.drewN nq = w7 at *
                                    go_wp2
                                    go_roundw
                                    case rel => exact ⟨q + 1, by omega, by go_num, HM9⟩
                                    case measure => simp [intOf]; omega
                      · have hq0 : q = m0 := by omega
                        have HM2 := Lib.hid (HM.out.congr (M' := B) fun i j hi hj => by unfold bP; rw [if_pos (by omega)])
                        have k4 : ¬ (q : Int) < (m0 : Int) := by omega
                        clear hq0 HM
                        go_wp2
                        go_roundw
                        case rel => exact ⟨p + 1, _, _, _, hlt, by go_num, HM2⟩
                        case measure => simp [intOf]; omega
                · as_aux_lemma =>
                    have hp0 : p = m0 := by omega
                    rw [hp0] at HM
                    have k4 : ¬ (p : Int) < (m0 : Int) := by omega
                    have HM0 : Hid (WM W5 wr w.heap.size hd Aq cq m0 m0 gr (fwN B 0)) := HM
                    clear hp0 HM
                    generalize wr = wD at *
                    go_wp2
                    clear k4
                    go_loopw [17] (fun i w7 => ∃ k : Nat, k ≤ m0 ∧ i = .int .i64 k ∧ Hid (WM W5 w7 w.heap.size hd Aq cq m0 m0 gr (fwN B k))) (fun i _ => m0 - (intOf i).toNat)
                    case atStart => exact ⟨0, Nat.zero_le _, rfl, HM0⟩
                    case round =>
                      clear HM0
                      obtain ⟨k, hk, rfl, HM⟩ := hrel
                      by_cases hlt : k < m0
                      · as_aux_lemma =>
                          have HM0 : Hid (WM W5 wr w.heap.size hd Aq cq m0 m0 gr (fwP (fwN B k) k 0 0)) := by
                            rw [fwP_start]
                            exact HM
                          clear HM
                          generalize wr = wE at *
                          go_wp2
                          go_loopw [18] (fun i w7 => ∃ p : Nat, p ≤ m0 ∧ i = .int .i64 p ∧ Hid (WM W5 w7 w.heap.size hd Aq cq m0 m0 gr (fwP (fwN B k) k p 0))) (fun i _ => m0 - (intOf i).toNat)
                          case atStart => exact ⟨0, Nat.zero_le _, rfl, HM0⟩
                          case round =>
                            clear HM0
                            obtain ⟨p, hp, rfl, HM⟩ := hrel
                            by_cases hltp : p < m0
                            · as_aux_lemma =>
                                generalize wr = wG at *
                                go_wp2
                                go_loopw [19] (fun i w7 => ∃ q : Nat, q ≤ m0 ∧ i = .int .i64 q ∧ Hid (WM W5 w7 w.heap.size hd Aq cq m0 m0 gr (fwP (fwN B k) k p q))) (fun i _ => m0 - (intOf i).toNat)
                                case atStart => exact ⟨0, Nat.zero_le _, rfl, HM⟩
                                case round =>
                                  clear HM
                                  obtain ⟨q, hq, rfl, HM⟩ := hrel
                                  by_cases hltq : q < m0
                                  · have hcw := HM.out.c4.1
                                    obtain ⟨ga, hga, hz1, hrow, hz2, hcl⟩ := HM.out.mb.at_ (p := p) hltp
                                    obtain ⟨ga', hga', hz3, hrow', hz4, hcl'⟩ := HM.out.mb.at_ (p := k) hlt
                                    subst hga
                                    injection hga' with hga'
                                    injection hga' with hga'
                                    subst hga'
                                    have h1 := (hcl k hlt).1
                                    have h2 := (hcl' q hltq).1
                                    obtain ⟨h3, h4⟩ := hcl q hltq
                                    rw [fwP_col] at h1
                                    rw [fwP_row] at h2
                                    have i1 : (0 : Int) ≤ (p : Int) := by omega
                                    have i2 : (p : Int) < (m0 : Int) := by omega
                                    have i3 : (0 : Int) ≤ (q : Int) := by omega
                                    have i4 : (q : Int) < (m0 : Int) := by omega
                                    have i5 : (0 : Int) ≤ (k : Int) := by omega
                                    have i6 : (k : Int) < (m0 : Int) := by omega
                                    clear hz1 hz2 hz3 hz4 hcl hcl'
                                    cases hb1 : fwN B k p k with
                                    | false =>
                                      have HM2 := HM.out
                                      rw [fwP_none (fwN B k) k p q (by rw [hb1]; rfl)] at HM2
                                      rw [hb1] at h1
                                      have HM3 := Lib.hid HM2
                                      clear HM2 HM hb1
                                      go_wp2
                                      go_roundw
                                      case rel => exact ⟨q + 1, hltq, by go_num, HM3⟩
                                      case measure => simp [intOf]; omega
                                    | true =>
                                      cases hb2 : fwN B k k q with
                                      | false =>
                                        have HM2 := HM.out
                                        rw [fwP_none (fwN B k) k p q (by rw [hb2]; simp)] at HM2
                                        rw [hb1] at h1
                                        rw [hb2] at h2
                                        have HM3 := Lib.hid HM2
                                        clear HM2 HM hb1 hb2
                                        go_wp2
                                        go_roundw
                                        case rel => exact ⟨q + 1, hltq, by go_num, HM3⟩
                                        case measure => simp [intOf]; omega
                                      | true =>
                                        have HM2 := HM.out.set (p := p) hltp q true
                                        rw [fwP_yes (fwN B k) k p q hb1 hb2] at HM2
                                        rw [hb1] at h1
                                        rw [hb2] at h2
                                        have HM3 := Lib.hid HM2
                                        clear HM2 HM hb1 hb2
                                        go_wp2
                                        go_roundw
                                        case rel => exact ⟨q + 1, hltq, by go_num, HM3⟩
                                        case measure => simp [intOf]; omega
                                  · have HM2 := Lib.hid (HM.out.congr (M' := fwP (fwN B k) k (p + 1) 0) fun i j hi hj => by
                                      unfold fwP
                                      by_cases e : i < p + 1
                                      · rw [if_pos (by omega), if_pos (by omega)]
                                      · rw [if_neg (by omega), if_neg (by omega)])
                                    have k4 : ¬ (q : Int) < (m0 : Int) := by omega
                                    clear HM
                                    go_wp2
                                    go_roundw
                                    case rel => exact ⟨p + 1, hltp, by go_num, HM2⟩
                                    case measure => simp [intOf]; omega
                            · have HM2 := Lib.hid (HM.out.congr (M' := fwN B (k + 1)) fun i j hi hj => by
                                show fwP (fwN B k) k p 0 i j = fw k (fwN B k) i j
                                unfold fwP
                                rw [if_pos (by omega)])
                              have k4 : ¬ (p : Int) < (m0 : Int) := by omega
                              clear HM
                              go_wp2
                              go_roundw
                              case rel => exact ⟨k + 1, hlt, by go_num, HM2⟩
                              case measure => simp [intOf]; omega
                      · have hk0 : k = m0 := by omega
                        rw [hk0] at HM
                        have k4 : ¬ (k : Int) < (m0 : Int) := by omega
                        have hsz := HM.out.ex.size
                        have hfin : DR wr wr.heap.size w.heap.size l bl lk ∧ Below w.heap.size w wr := by
                          have hN : (pts l bl).length = m0 := by rw [← HPP.out, HNN.out]
                          refine ⟨⟨by omega, ?_, ?_, ?_, ?_⟩, ?_⟩
                          · obtain ⟨a2, r2, hc2, hr2⟩ := HM.out.at_ HD5.out.dw (t := 2) (by omega)
                            rw [HL2.out] at hc2
                            refine ⟨a2, r2, by rw [hN]; exact hc2, fun p hp => ?_⟩
                            rw [← HPP.out]
                            exact hr2 p _ (HAT2.out p (by rw [← hN]; exact hp))
                          · obtain ⟨a3, r3, hc3, hr3⟩ := HM.out.at_ HD5.out.dw (t := 3) (by omega)
                            have hl3 : (lsP P (ofL l P (List.range m0)) 3).length = l.length := ofL_len _ _ _
                            rw [hl3] at hc3
                            refine ⟨a3, r3, hc3, fun i hi => hr3 i _ ?_⟩
                            show (ofL l P (List.range m0))[i]? = _
                            unfold ofL ofP
                            rw [List.getElem?_map, List.getElem?_range hi, Option.map_some, HPP.out, hN]
                          · refine ⟨Aq, cq, gr, by rw [hN]; exact HM.out.c4.1, fun p hp => ?_⟩
                            rw [hN] at hp
                            obtain ⟨g, h1, h2, h3, h4, h5⟩ := HM.out.mb.at_ hp
                            refine ⟨⟨g, h1, h2.2, by rw [hN]; exact h3⟩, h4.2, fun q hq => ?_⟩
                            rw [(h5 q (by rw [← hN]; exact hq)).1]
                            unfold aheadP
                            rw [hN, HBB.out]
                          · refine ⟨Ab, cb, hdB, ?_, (HRBX.out wr HM.out.ex).more (Nat.zero_le _) (by omega)⟩
                            rw [HM.out.cs 5 (by omega) (by omega), HD5.out.h5]
                          · exact HM.out.ex.below (HD5.out.ex.below HB3.out (fun k hk e => by omega) (by omega)) (fun k hk e => by omega) (by omega)
                        have HFIN := Lib.hid hfin
                        clear hk0 HM hfin
                        go_wp2
                        go_ret
                        exact ⟨w.heap.size, rfl, by rw [HBLE.out, HLKE.out]; exact HFIN.out.1, HFIN.out.2⟩
end Go.Proofs.Ytjifpjfinffamaa
end
