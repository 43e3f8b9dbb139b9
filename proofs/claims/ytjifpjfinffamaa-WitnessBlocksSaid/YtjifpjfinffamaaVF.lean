/- Walks: events.goOver, events.Check: what the document's Check says. -/
import Derived.Test.YtjifpjfinffamaaVA
import Derived.Test.YtjifpjfinffamaaVE
import Derived.Test.YtjifpjfinffamaaV6
namespace Go.Proofs.Ytjifpjfinffamaa
open Go.RowKit Go.Maps

def lookCells : List Value := tabL ++ (List.range 8).flatMap (fun _ => [.int .i64 0, .int .u64 0, .map none, .int .i64 0]) ++ [.int .u64 0, .int .i64 (-1), .slice none 0 0]
theorem look0 (w : World) : LInv (w.alloc (.cells lookCells.toArray 193)) w.heap.size w.heap.size 0 ss0 (fun _ => none) (fun _ => 0) (-1) none 0 0 [] := by
  have hact : ∀ i, ¬ Act_ (ss0.t i).how := fun i h => by rcases h with h | h <;> cases h
  refine ⟨blk_new w lookCells.toArray 193 87 _ ?_, World.ownsRow_nil _ _ _ _, fun q x hx => by simp at hx, fun i _ ha => absurd ha (hact i), fun i j _ _ _ ha => absurd ha (hact i), .inl ⟨rfl, fun i _ h => by cases h⟩, fun i _ => ⟨Int.le_refl _, (show (0 : Int) < 18446744073709551616 by decide)⟩, fun i _ => ⟨Int.le_refl _, (show (0 : Int) < 4 by decide)⟩, Nat.le_refl _⟩
  rfl

theorem lookArr : (List.foldl (fun cs x => cs.setIfInBounds x.snd x.fst) Try.zeroCells193 tabL.zipIdx).setIfInBounds 85 (Value.int IntKind.i64 (-1)) = lookCells.toArray := by kernel_rfl

set_option linter.unusedSimpArgs false in
set_option maxRecDepth 100000 in
set_option maxHeartbeats 6400000 in
theorem goOver_any (A : Option Addr) (cap : Nat) (l : List Ev) (w : World) (hl : l.length ≤ 1099511627776) (hc : EvR w w.heap.size A l) :
    Calls Try.prog 90 #[.slice A l.length cap] w fun e w' => ∃ P, e = .returned (.tuple #[.pointer P, oddV (chk ss0 l 0)]) ∧ Below w.heap.size w w' := by
  have HC := Lib.hid hc
  clear hc
  obtain ⟨R, hR⟩ : ∃ R, R = chk ss0 l 0 := ⟨_, rfl⟩
  have HR := Lib.hid hR
  rw [← hR]
  clear hR
  have hO : Blk (w.alloc (.cells #[.int .i64 0, .int .i64 0] 99)) w.heap.size 99 w.heap.size 2 (fun _ => .int .i64 0) := blk_new w #[.int .i64 0, .int .i64 0] 99 2 _ rfl
  have HO := Lib.hid hO
  have HB := Lib.hid ((Below.refl w.heap.size w).alloc (Nat.le_refl _) (.cells #[.int .i64 0, .int .i64 0] 99))
  clear hO
  go_enter Try.func90, Try.ntmps90
  go_wp2_with (go_at_call 116; refine halt_ ?_)
  refine Halt_.go ?_
  refine (table_any _).mono ?_
  rintro e w1 ⟨rfl, hb⟩
  have HO1 := Lib.hid (HO.out.below (by simp) hb)
  have HB1 := Lib.hid (HB.out.trans (hb.mono (by simp)))
  have hLI := look0 w1
  rw [← lookArr] at hLI
  have hb1 : w.heap.size < w1.heap.size := HO1.out.lt.2
  have HLI := Lib.hid hLI
  have HO2 := Lib.hid (HO1.out.kept (w' := w1.alloc (.cells ((List.foldl (fun cs x => cs.setIfInBounds x.snd x.fst) Try.zeroCells193 tabL.zipIdx).setIfInBounds 85 (Value.int IntKind.i64 (-1))) 193)) (Below.heap_alloc _ _ _ hb1))
  have HB2 := Lib.hid (HB1.out.alloc (Nat.le_of_lt hb1) (.cells ((List.foldl (fun cs x => cs.setIfInBounds x.snd x.fst) Try.zeroCells193 tabL.zipIdx).setIfInBounds 85 (Value.int IntKind.i64 (-1))) 193))
  clear hb hLI HO HB HO1 HB1
  obtain ⟨b, hbE⟩ : ∃ b, b = w1.heap.size := ⟨_, rfl⟩
  have HBE := Lib.hid hbE
  go_wp2
  rw [← hbE]
  rw [← hbE] at hb1 HLI
  clear hbE
  generalize w1.alloc (.cells ((List.foldl (fun cs x => cs.setIfInBounds x.snd x.fst) Try.zeroCells193 tabL.zipIdx).setIfInBounds 85 (Value.int IntKind.i64 (-1))) 193) = w2 at *
  go_loopw [13] (fun i wr => ∃ (p : Nat) (s : SS) (mp : Nat → Option Nat) (tr : Nat → Int) (hd : Int) (At : Option Addr) (ct nt : Nat) (vs : List Value), p ≤ l.length ∧ i = .int .i64 p ∧ Hid (LInv wr b b p s mp tr hd At ct nt vs) ∧ Hid (R = chk s (l.drop p) p) ∧ Hid (Below w.heap.size w wr) ∧ Hid (Blk wr w.heap.size 99 w.heap.size 2 (fun _ => .int .i64 0))) (fun i _ => l.length - (intOf i).toNat)
  case atStart => exact ⟨0, ss0, _, _, _, _, _, _, _, Nat.zero_le _, rfl, HLI, HR, HB2, HO2⟩
  case round =>
    obtain ⟨p, s, mp, tr, hd, At, ct, nt, vs, hp, rfl, HI, HX, HBL, HO3⟩ := hrel
    by_cases hlt : p < l.length
    · obtain ⟨eb, eo, e, hA, heb, he, hwd, e0, e1, e2, e3, e4, e5⟩ := HC.out.at_ HBL.out hlt
      subst hA
      have hst := HX.out
      rw [chk_step he.out] at hst
      have i1 : (0 : Int) ≤ (p : Int) := by omega
      have i2 : (p : Int) < (l.length : Int) := by omega
      have hbw : b < wr.heap.size := HI.out.blk.lt.2
      obtain ⟨t, k, a, x, o, er⟩ := e
      simp only at e0 e1 e2 e3 e4 e5
      have hal : Below wr.heap.size wr (wr.alloc (.cells #[.int .i64 t, .int .i64 k, .int .u64 a, .int .u64 x, .bool o, .int .i64 er] 97)) := (Below.refl _ _).alloc (Nat.le_refl _) _
      have HI2 := Lib.hid (HI.out.kept hal)
      have hwr := wrong_any b b p s mp tr hd At ct nt vs ⟨t, k, a, x, o, er⟩ _ hwd HI2.out
      have HW := Lib.hid hwr
      have HBL2 := Lib.hid (HBL.out.alloc HBL.out.size (.cells #[.int .i64 t, .int .i64 k, .int .u64 a, .int .u64 x, .bool o, .int .i64 er] 97))
      have HO4 := Lib.hid (HO3.out.kept (Below.heap_alloc wr (.cells #[.int .i64 t, .int .i64 k, .int .u64 a, .int .u64 x, .bool o, .int .i64 er] 97) _ HO3.out.lt.2))
      have HX4 := Lib.hid (BoxE.made wr ⟨t, k, a, x, o, er⟩)
      have HST := Lib.hid hst
      have HWD := Lib.hid hwd
      generalize hpe : putE s ⟨t, k, a, x, o, er⟩ = pe at *
      have HPE := Lib.hid hpe
      clear hpe
      clear hst hwr he HX hwd HLI HR HB2 HO2 hal HI HBL HO3
      go_wp2_with (go_at_call 117; refine halt_ ?_)
      refine Halt_.go ?_
      refine HW.out.mono ?_
      rintro e' w3 ⟨rfl, hb3⟩
      have HI3 := Lib.hid (HI2.out.kept hb3)
      have HX3 := Lib.hid (HX4.out.below hb3)
      have HBL3 := Lib.hid (HBL2.out.trans (hb3.mono HBL2.out.size))
      have HO5 := Lib.hid (HO4.out.below HO4.out.lt.2 hb3)
      have hb3s : b < w3.heap.size := HI3.out.blk.lt.2
      clear hb3 HI2 HX4 HBL2 HO4 HW
      by_cases h0 : pe = 0
      · subst h0
        have htk := take_any b b p (p : Int) s mp tr hd At ct nt vs ⟨t, k, a, x, o, er⟩ w3 HWD.out (by omega) HI3.out HPE.out (Nat.le_of_lt hb3s)
        have HTK := Lib.hid htk
        obtain ⟨_, c0, c1, c2, c3, c4, c5⟩ := HX3.out
        simp only at c0 c1 c2 c3 c4 c5
        clear htk
        go_wp2_with (go_at_call 118; refine halt_ ?_)
        refine Halt_.go ?_
        refine HTK.out.mono ?_
        rintro e'' w4 ⟨rfl, hb4, mp', tr', hd', At', ct', nt', vs', hI4⟩
        have HI4 := Lib.hid hI4
        have HBL4 := Lib.hid (HBL3.out.trans (hb4.mono (Nat.le_of_lt hb1)))
        have HO6 := Lib.hid (HO5.out.below hb1 hb4)
        have HX5 := Lib.hid (show R = chk (adv s ⟨t, k, a, x, o, er⟩) (l.drop (p + 1)) (p + 1) by rw [HST.out]; simp)
        clear hb4 hI4 HTK HI3 HX3 HBL3 HO5 c0 c1 c2 c3 c4 c5
        go_wp2
        go_roundw
        case rel => exact ⟨p + 1, _, mp', tr', hd', At', ct', nt', vs', hlt, by go_num, HI4, HX5, HBL4, HO6⟩
        case measure => simp [intOf]; omega
      · have hR : R = ((p : Int), pe) := by rw [HST.out, if_neg h0]
        subst hR
        have e7 : (pe != 0) = true := by simpa using h0
        have hq1 := (HO5.out.cell (j := 0) (by omega)).2
        have hq2 := (HO5.out.cell (j := 0) (by omega)).1
        have hq3 := (HO5.out.cell (j := 1) (by omega)).2
        have hq4 := (HO5.out.cell (j := 1) (by omega)).1
        have hf := (HO5.out.set 0 (.int .i64 (p : Int))).set 1 (.int .i64 pe)
        have hc0 := (hf.cell (j := 0) (by omega)).1
        have hc1 := (hf.cell (j := 1) (by omega)).1
        simp only [if_true, if_false, Nat.reduceEqDiff, Nat.zero_ne_one, Nat.one_ne_zero] at hc0 hc1
        have hBF := ((HBL3.out.setCell (p := ⟨w.heap.size, 0, none⟩) (Nat.le_refl _) (.int .i64 (p : Int))).setCell (p := ⟨w.heap.size, 1, none⟩) (Nat.le_refl _) (.int .i64 pe))
        have HC0 := Lib.hid hc0
        have HC1 := Lib.hid hc1
        have HBF := Lib.hid hBF
        clear hf hc0 hc1 hBF HST HI3 HX3 HPE h0
        go_wp2
        refine bodyPost_ret (v := .tuple #[.pointer none, oddV ((p : Int), pe)]) (by simp [results, Try.results90, go_sem, HC0.out, HC1.out, oddV]) rfl ?_
        exact ⟨_, rfl, HBF.out⟩
    · obtain rfl : p = l.length := by omega
      have hx := HX.out
      rw [chk_end] at hx
      subst hx
      have hq1 := (HO3.out.cell (j := 0) (by omega)).2
      have hq2 := (HO3.out.cell (j := 0) (by omega)).1
      have hq3 := (HO3.out.cell (j := 1) (by omega)).2
      have hq4 := (HO3.out.cell (j := 1) (by omega)).1
      have hf := (HO3.out.set 0 (.int .i64 (-1))).set 1 (.int .i64 0)
      have hc0 := (hf.cell (j := 0) (by omega)).1
      have hc1 := (hf.cell (j := 1) (by omega)).1
      simp only [if_true, if_false, Nat.reduceEqDiff, Nat.zero_ne_one, Nat.one_ne_zero] at hc0 hc1
      have hBF := ((HBL.out.setCell (p := ⟨w.heap.size, 0, none⟩) (Nat.le_refl _) (.int .i64 (-1))).setCell (p := ⟨w.heap.size, 1, none⟩) (Nat.le_refl _) (.int .i64 0))
      have HC0 := Lib.hid hc0
      have HC1 := Lib.hid hc1
      have HBF := Lib.hid hBF
      clear hf hc0 hc1 hBF HX HI
      go_wp2
      refine bodyPost_ret (v := .tuple #[.pointer (some ⟨b, 0, none⟩), oddV ((-1), 0)]) (by simp [results, Try.results90, go_sem, HC0.out, HC1.out, oddV]) rfl ?_
      exact ⟨_, rfl, HBF.out⟩

set_option linter.unusedSimpArgs false in
set_option maxRecDepth 100000 in
set_option maxHeartbeats 3200000 in
/-- events.Check: what the document's Check says -/
theorem evCheck_any (A : Option Addr) (cap : Nat) (l : List Ev) (w : World) (hl : l.length ≤ 1099511627776) (hc : EvR w w.heap.size A l) :
    Calls Try.prog 59 #[.slice A l.length cap] w fun e w' => e = .returned (oddV (chk ss0 l 0)) ∧ Below w.heap.size w w' := by
  have hc1 := (hc.below ((Below.refl w.heap.size w).alloc (Nat.le_refl _) (.cells #[.int .i64 0, .int .i64 0] 99))).more (show w.heap.size ≤ (w.alloc (.cells #[.int .i64 0, .int .i64 0] 99)).heap.size by simp)
  have HG := Lib.hid (goOver_any A cap l (w.alloc (.cells #[.int .i64 0, .int .i64 0] 99)) hl hc1)
  have hO : Blk (w.alloc (.cells #[.int .i64 0, .int .i64 0] 99)) w.heap.size 99 w.heap.size 2 (fun _ => .int .i64 0) := blk_new w #[.int .i64 0, .int .i64 0] 99 2 _ rfl
  have HO := Lib.hid hO
  have HB := Lib.hid ((Below.refl w.heap.size w).alloc (Nat.le_refl _) (.cells #[.int .i64 0, .int .i64 0] 99))
  clear hc hc1 hO
  generalize chk ss0 l 0 = R at *
  obtain ⟨x, y⟩ := R
  go_enter Try.func59, Try.ntmps59
  go_wp2_with (go_at_call 90; refine halt_ ?_)
  refine Halt_.go ?_
  refine HG.out.mono ?_
  rintro e w1 ⟨P, rfl, hb⟩
  have HO1 := Lib.hid (HO.out.below (by simp) hb)
  have HB1 := Lib.hid (HB.out.trans (hb.mono (by simp)))
  clear hb HG HO HB
  unfold oddV
  have hq1 := (HO1.out.cell (j := 0) (by omega)).2
  have hq2 := (HO1.out.cell (j := 0) (by omega)).1
  have hq3 := (HO1.out.cell (j := 1) (by omega)).2
  have hq4 := (HO1.out.cell (j := 1) (by omega)).1
  have hlt : w.heap.size < w1.heap.size := HO1.out.lt.2
  have hne : ¬ w.heap.size = w1.heap.size := by omega
  have hf := ((HO1.out.set 0 (.int .i64 x)).set 1 (.int .i64 y)).kept (Below.heap_alloc ((w1.setCell ⟨w.heap.size, 0, none⟩ (.int .i64 x)).setCell ⟨w.heap.size, 1, none⟩ (.int .i64 y)) (.cells #[.int .i64 x, .int .i64 y] 99) w.heap.size (by simp; omega))
  have hc0 := (hf.cell (j := 0) (by omega)).1
  have hc1 := (hf.cell (j := 1) (by omega)).1
  simp only [if_true, if_false, Nat.reduceEqDiff, Nat.zero_ne_one, Nat.one_ne_zero] at hc0 hc1
  have hBF := ((HB1.out.setCell (p := ⟨w.heap.size, 0, none⟩) (Nat.le_refl _) (.int .i64 x)).setCell (p := ⟨w.heap.size, 1, none⟩) (Nat.le_refl _) (.int .i64 y)).alloc (by simp; omega) (.cells #[.int .i64 x, .int .i64 y] 99)
  have HC0 := Lib.hid hc0
  have HC1 := Lib.hid hc1
  have HBF := Lib.hid hBF
  clear hf hc0 hc1 hBF
  go_wp2
  have hr0 := HC0.out
  have hr1 := HC1.out
  refine bodyPost_ret (v := oddV (x, y)) (by simp only [results, Try.results59]; simp [go_sem, oddV] at hr0 hr1 ⊢; simp [hr0, hr1]) rfl ?_
  exact ⟨rfl, HBF.out⟩
end Go.Proofs.Ytjifpjfinffamaa
