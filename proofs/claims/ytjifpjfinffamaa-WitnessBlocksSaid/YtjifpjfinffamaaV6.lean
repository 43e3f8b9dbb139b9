/- Walk: the document's Check. -/
import Derived.Test.YtjifpjfinffamaaV5
import Derived.Handy
namespace Go.Proofs.Ytjifpjfinffamaa
open Go.RowKit

theorem chk_step {h : List Ev} {p : Nat} {e : Ev} (he : h[p]? = some e) (s : SS) : chk s (h.drop p) p = if putE s e = 0 then chk (adv s e) (h.drop (p + 1)) (p + 1) else ((p : Int), putE s e) := by
  obtain ⟨hp, rfl⟩ := List.getElem?_eq_some_iff.1 he
  rw [List.drop_eq_getElem_cons hp]
  rfl
theorem chk_end {h : List Ev} (s : SS) : chk s (h.drop h.length) h.length = (-1, 0) := by
  rw [List.drop_length]
  rfl
def oddV (x : Int × Int) : Value := .agg #[.int .i64 x.1, .int .i64 x.2]
theorem world0 (w : World) : WInv (w.alloc (.cells #[.int .i64 0, .int .u64 0, .slice none 0 0, .int .i64 0, .int .u64 0, .slice none 0 0, .int .i64 0, .int .u64 0, .slice none 0 0, .int .i64 0, .int .u64 0, .slice none 0 0,
    .int .i64 0, .int .u64 0, .slice none 0 0, .int .i64 0, .int .u64 0, .slice none 0 0, .int .i64 0, .int .u64 0, .slice none 0 0, .int .i64 0, .int .u64 0, .slice none 0 0, .int .u64 0] 142)) w.heap.size w.heap.size 0 ss0 (fun _ => none) (fun _ => 0) := by
  refine ⟨?_, fun i _ => OwnP.nil _ _, fun i j _ _ _ => .inl rfl, fun i _ => Nat.le_refl _, fun i _ => ⟨Int.le_refl _, (show (0 : Int) < 18446744073709551616 by decide)⟩⟩
  have h := World.ownsRow_lit (base := w.heap.size) (e := 142) (size := 25) w #[.int .i64 0, .int .u64 0, .slice none 0 0, .int .i64 0, .int .u64 0, .slice none 0 0, .int .i64 0, .int .u64 0, .slice none 0 0, .int .i64 0, .int .u64 0, .slice none 0 0,
    .int .i64 0, .int .u64 0, .slice none 0 0, .int .i64 0, .int .u64 0, .slice none 0 0, .int .i64 0, .int .u64 0, .slice none 0 0, .int .i64 0, .int .u64 0, .slice none 0 0, .int .u64 0] 1 (Nat.le_refl _) (by decide) rfl
  exact h

set_option linter.unusedSimpArgs false in
set_option maxRecDepth 100000 in
set_option maxHeartbeats 3200000 in
theorem refCheck_any (A : Option Addr) (cap : Nat) (h : List Ev) (w : World) (hl : h.length ≤ 1099511627776) (hc : EvR w w.heap.size A h) :
    Calls Try.prog 58 #[.slice A h.length cap] w fun e w' => e = .returned (oddV (chk ss0 h 0)) ∧ Below w.heap.size w w' := by
  have HC := Lib.hid hc
  clear hc
  obtain ⟨R, hR⟩ : ∃ R, R = chk ss0 h 0 := ⟨_, rfl⟩
  have HR := Lib.hid hR
  rw [← hR]
  clear hR
  have hW := world0 (w.alloc (.cells #[.int .i64 0, .int .i64 0] 99))
  have hB := ((Below.refl w.heap.size w).alloc (Nat.le_refl _) (.cells #[.int .i64 0, .int .i64 0] 99)).alloc (by simp) (.cells #[.int .i64 0, .int .u64 0, .slice none 0 0, .int .i64 0, .int .u64 0, .slice none 0 0, .int .i64 0, .int .u64 0, .slice none 0 0, .int .i64 0, .int .u64 0, .slice none 0 0,
    .int .i64 0, .int .u64 0, .slice none 0 0, .int .i64 0, .int .u64 0, .slice none 0 0, .int .i64 0, .int .u64 0, .slice none 0 0, .int .i64 0, .int .u64 0, .slice none 0 0, .int .u64 0] 142)
  have hO : Blk (w.alloc (.cells #[.int .i64 0, .int .i64 0] 99)) w.heap.size 99 w.heap.size 2 (fun _ => .int .i64 0) := by
    have h := World.ownsRow_lit (base := w.heap.size) (e := 99) (size := 2) w #[.int .i64 0, .int .i64 0] 1 (Nat.le_refl _) (by decide) rfl
    exact h
  have HW := Lib.hid hW
  have HB := Lib.hid hB
  have hO2 := hO.below (B := w.heap.size + 1) (Nat.lt_succ_self _) ((Below.refl (w.heap.size + 1) (w.alloc (.cells #[.int .i64 0, .int .i64 0] 99))).alloc (by simp) (.cells #[.int .i64 0, .int .u64 0, .slice none 0 0, .int .i64 0, .int .u64 0, .slice none 0 0, .int .i64 0, .int .u64 0, .slice none 0 0, .int .i64 0, .int .u64 0, .slice none 0 0,
    .int .i64 0, .int .u64 0, .slice none 0 0, .int .i64 0, .int .u64 0, .slice none 0 0, .int .i64 0, .int .u64 0, .slice none 0 0, .int .i64 0, .int .u64 0, .slice none 0 0, .int .u64 0] 142))
  have HO := Lib.hid hO2
  clear hW hB hO hO2
  go_enter Try.func58, Try.ntmps58
  go_wp2
  go_loopw [4] (fun i wr => ∃ (p : Nat) (s : SS) (As : Nat → Option Addr) (cs : Nat → Nat), p ≤ h.length ∧ i = .int .i64 p ∧ Hid (WInv wr (w.heap.size + 1) (w.heap.size + 1) p s As cs) ∧ Hid (R = chk s (h.drop p) p) ∧ Hid (Below w.heap.size w wr) ∧ Hid (Blk wr w.heap.size 99 w.heap.size 2 (fun _ => .int .i64 0))) (fun i _ => h.length - (intOf i).toNat)
  case atStart => exact ⟨0, ss0, fun _ => none, fun _ => 0, Nat.zero_le _, rfl, Lib.hid (by simpa using HW.out), HR, HB, HO⟩
  case round =>
    obtain ⟨p, s, As, cs, hp, rfl, HI, HX, HBL, HO1⟩ := hrel
    by_cases hlt : p < h.length
    · obtain ⟨eb, eo, e, hA, heb, he, hwd, e0, e1, e2, e3, e4, e5⟩ := HC.out.at_ HBL.out hlt
      subst hA
      have hst := HX.out
      rw [chk_step he.out] at hst
      have hsz : w.heap.size + 1 ≤ wr.heap.size := HO1.out.lt.2
      have hput := put_any (w.heap.size + 1) (w.heap.size + 1) p s As cs e wr hwd (by omega) HI.out hsz
      have i1 : (0 : Int) ≤ (p : Int) := by omega
      have i2 : (p : Int) < (h.length : Int) := by omega
      have HST := Lib.hid hst
      have HPU := Lib.hid hput
      generalize putE s e = pe at *
      obtain ⟨t, k, a, x, o, er⟩ := e
      simp only at e0 e1 e2 e3 e4 e5
      have HE := Lib.hid he.out
      clear hst hput he HX hwd HW HB HO HR
      go_wp2_with (go_at_call 89; refine halt_ ?_)
      refine Halt_.go ?_
      refine HPU.out.mono ?_
      rintro e' w2 ⟨rfl, hb2, hnext⟩
      have HB2 := Lib.hid (HBL.out.trans (hb2.mono (Nat.le_succ _)))
      have HO2 := Lib.hid (HO1.out.below (Nat.lt_succ_self _) hb2)
      have HNX := Lib.hid hnext
      have hs2 : w.heap.size + 1 ≤ w2.heap.size := HO2.out.lt.2
      clear hb2 hnext HPU HI HBL HO1
      by_cases hpe : pe = 0
      · subst hpe
        obtain ⟨A', c', hI2⟩ := HNX.out rfl
        have HI2 := Lib.hid hI2
        have HX2 := Lib.hid (show R = chk (adv s ⟨t, k, a, x, o, er⟩) (h.drop (p + 1)) (p + 1) by rw [HST.out, if_pos rfl])
        clear hI2 HNX HST
        go_wp2
        go_roundw
        case rel => exact ⟨p + 1, _, A', c', hlt, by go_num, HI2, HX2, HB2, HO2⟩
        case measure => simp [intOf]; omega
      · have hR : R = ((p : Int), pe) := by rw [HST.out, if_neg hpe]
        subst hR
        have e7 : (pe != 0) = true := by simpa using hpe
        have hq1 := (HO2.out.cell (j := 0) (by omega)).2
        have hq2 := (HO2.out.cell (j := 0) (by omega)).1
        have hq3 := (HO2.out.cell (j := 1) (by omega)).2
        have hq4 := (HO2.out.cell (j := 1) (by omega)).1
        have hf := (HO2.out.set 0 (.int .i64 p)).set 1 (.int .i64 pe)
        have hc0 := (hf.cell (j := 0) (by omega)).1
        have hc1 := (hf.cell (j := 1) (by omega)).1
        simp only [if_true, if_false, Nat.reduceEqDiff, Nat.zero_ne_one, Nat.one_ne_zero] at hc0 hc1
        have hBF := ((HB2.out.setCell (p := ⟨w.heap.size, 0, none⟩) (Nat.le_refl _) (.int .i64 p)).setCell (p := ⟨w.heap.size, 1, none⟩) (Nat.le_refl _) (.int .i64 pe))
        have HC0 := Lib.hid hc0
        have HC1 := Lib.hid hc1
        have HBF := Lib.hid hBF
        clear hf hc0 hc1 hBF HNX HST hpe
        go_wp2
        refine bodyPost_ret (v := oddV ((p : Int), pe)) (by simp [results, Try.results58, go_sem, HC0.out, HC1.out, oddV]) rfl ?_
        exact ⟨rfl, HBF.out⟩
    · obtain rfl : p = h.length := by omega
      have hx := HX.out
      rw [chk_end] at hx
      subst hx
      have hq1 := (HO1.out.cell (j := 0) (by omega)).2
      have hq2 := (HO1.out.cell (j := 0) (by omega)).1
      have hq3 := (HO1.out.cell (j := 1) (by omega)).2
      have hq4 := (HO1.out.cell (j := 1) (by omega)).1
      have hf := (HO1.out.set 0 (.int .i64 (-1))).set 1 (.int .i64 0)
      have hc0 := (hf.cell (j := 0) (by omega)).1
      have hc1 := (hf.cell (j := 1) (by omega)).1
      simp only [if_true, if_false, Nat.reduceEqDiff, Nat.zero_ne_one, Nat.one_ne_zero] at hc0 hc1
      have hBF := ((HBL.out.setCell (p := ⟨w.heap.size, 0, none⟩) (Nat.le_refl _) (.int .i64 (-1))).setCell (p := ⟨w.heap.size, 1, none⟩) (Nat.le_refl _) (.int .i64 0))
      have HC0 := Lib.hid hc0
      have HC1 := Lib.hid hc1
      have HBF := Lib.hid hBF
      clear hf hc0 hc1 hBF
      go_wp2
      refine bodyPost_ret (v := oddV (-1, 0)) (by simp [results, Try.results58, go_sem, HC0.out, HC1.out, oddV]) rfl ?_
      exact ⟨rfl, HBF.out⟩
end Go.Proofs.Ytjifpjfinffamaa
