/- Texts V6 W2 X1 OA X3 R1 Y1 Y4 X4, laid together. -/
import Derived.Test.YtjifpjfinffamaaZ1
import Derived.Test.YtjifpjfinffamaaZ2
import Derived.Handy
import Derived.Deep.QuietTactic
import Derived.BigQuiet
import Derived.Deep.Strs
import Derived.SizedLaws
import Derived.ProofKit
import Derived.BigRegion
import Derived.Deep.RegionLaw
section
namespace Go.Proofs.Ytjifpjfinffamaa
open Go.RowKit
theorem chk_step {h : List Ev} {p : Nat} {e : Ev} (he : h[p]? = some e) (s : SS) : chk s (h.drop p) p = if putE s e = 0 then chk (adv s e) (h.drop (p + 1)) (p + 1) else ((p : Int), putE s e) := by
  obtain ⟨hp, rfl⟩ := List.getElem?_eq_some_iff.1 he
  rw [List.drop_eq_getElem_cons hp]
  rfl
theorem chk_end {h : List Ev} (s : SS) : chk s (h.drop h.length) h.length = (-1, 0) := by
  rw [List.drop_length]
  rfl
def oddV (x : Int × Int) : Value := .agg #[.int .i64 x.1, .int .i64 x.2]
theorem world0 (w : World) : WInv (w.alloc (.cells #[.int .i64 0, .int .u64 0, .slice none 0 0, .int .i64 0, .int .u64 0, .slice none 0 0, .int .i64 0, .int .u64 0, .slice none 0 0, .int .i64 0, .int .u64 0, .slice none 0 0,
    .int .i64 0, .int .u64 0, .slice none 0 0, .int .i64 0, .int .u64 0, .slice none 0 0, .int .i64 0, .int .u64 0, .slice none 0 0, .int .i64 0, .int .u64 0, .slice none 0 0, .int .u64 0] 142)) w.heap.size w.heap.size 0 ss0 (fun _ => none) (fun _ => 0) := by
  refine ⟨?_, fun i _ => OwnP.nil _ _, fun i j _ _ _ => .inl rfl, fun i _ => Nat.le_refl _, fun i _ => ⟨Int.le_refl _, (show (0 : Int) < 18446744073709551616 by decide)⟩⟩
  have h := World.ownsRow_lit (base := w.heap.size) (e := 142) (size := 25) w #[.int .i64 0, .int .u64 0, .slice none 0 0, .int .i64 0, .int .u64 0, .slice none 0 0, .int .i64 0, .int .u64 0, .slice none 0 0, .int .i64 0, .int .u64 0, .slice none 0 0,
    .int .i64 0, .int .u64 0, .slice none 0 0, .int .i64 0, .int .u64 0, .slice none 0 0, .int .i64 0, .int .u64 0, .slice none 0 0, .int .i64 0, .int .u64 0, .slice none 0 0, .int .u64 0] 1 (Nat.le_refl _) (by decide) rfl
  exact h
set_option linter.unusedSimpArgs false in
set_option maxRecDepth 100000 in
set_option maxHeartbeats 3200000 in
theorem refCheck_any (A : Option Addr) (cap : Nat) (h : List Ev) (w : World) (hl : h.length ≤ 1099511627776) (hc : EvR w w.heap.size A h) :
    Calls Try.prog 58 #[.slice A h.length cap] w fun e w' => e = .returned (oddV (chk ss0 h 0)) ∧ Below w.heap.size w w' := by
  have HC := Lib.hid hc
  clear hc
  obtain ⟨R, hR⟩ : ∃ R, R = chk ss0 h 0 := ⟨_, rfl⟩
  have HR := Lib.hid hR
  rw [← hR]
  clear hR
  have hW := world0 (w.alloc (.cells #[.int .i64 0, .int .i64 0] 99))
  have hB := ((Below.refl w.heap.size w).alloc (Nat.le_refl _) (.cells #[.int .i64 0, .int .i64 0] 99)).alloc (by simp) (.cells #[.int .i64 0, .int .u64 0, .slice none 0 0, .int .i64 0, .int .u64 0, .slice none 0 0, .int .i64 0, .int .u64 0, .slice none 0 0, .int .i64 0, .int .u64 0, .slice none 0 0,
    .int .i64 0, .int .u64 0, .slice none 0 0, .int .i64 0, .int .u64 0, .slice none 0 0, .int .i64 0, .int .u64 0, .slice none 0 0, .int .i64 0, .int .u64 0, .slice none 0 0, .int .u64 0] 142)
  have hO : Blk (w.alloc (.cells #[.int .i64 0, .int .i64 0] 99)) w.heap.size 99 w.heap.size 2 (fun _ => .int .i64 0) := by
    have h := World.ownsRow_lit (base := w.heap.size) (e := 99) (size := 2) w #[.int .i64 0, .int .i64 0] 1 (Nat.le_refl _) (by decide) rfl
    exact h
  have HW := Lib.hid hW
  have HB := Lib.hid hB
  have hO2 := hO.below (B := w.heap.size + 1) (Nat.lt_succ_self _) ((Below.refl (w.heap.size + 1) (w.alloc (.cells #[.int .i64 0, .int .i64 0] 99))).alloc (by simp) (.cells #[.int .i64 0, .int .u64 0, .slice none 0 0, .int .i64 0, .int .u64 0, .slice none 0 0, .int .i64 0, .int .u64 0, .slice none 0 0, .int .i64 0, .int .u64 0, .slice none 0 0,
    .int .i64 0, .int .u64 0, .slice none 0 0, .int .i64 0, .int .u64 0, .slice none 0 0, .int .i64 0, .int .u64 0, .slice none 0 0, .int .i64 0, .int .u64 0, .slice none 0 0, .int .u64 0] 142))
  have HO := Lib.hid hO2
  clear hW hB hO hO2
  go_enter Try.func58, Try.ntmps58
  go_wp2
  go_loopw [4] (fun i wr => ∃ (p : Nat) (s : SS) (As : Nat → Option Addr) (cs : Nat → Nat), p ≤ h.length ∧ i = .int .i64 p ∧ Hid (WInv wr (w.heap.size + 1) (w.heap.size + 1) p s As cs) ∧ Hid (R = chk s (h.drop p) p) ∧ Hid (Below w.heap.size w wr) ∧ Hid (Blk wr w.heap.size 99 w.heap.size 2 (fun _ => .int .i64 0))) (fun i _ => h.length - (intOf i).toNat)
  case atStart => exact ⟨0, ss0, fun _ => none, fun _ => 0, Nat.zero_le _, rfl, Lib.hid (by simpa using HW.out), HR, HB, HO⟩
  case round =>
    obtain ⟨p, s, As, cs, hp, rfl, HI, HX, HBL, HO1⟩ := hrel
    by_cases hlt : p < h.length
    · obtain ⟨eb, eo, e, hA, heb, he, hwd, e0, e1, e2, e3, e4, e5⟩ := HC.out.at_ HBL.out hlt
      subst hA
      have hst := HX.out
      rw [chk_step he.out] at hst
      have hsz : w.heap.size + 1 ≤ wr.heap.size := HO1.out.lt.2
      have hput := put_any (w.heap.size + 1) (w.heap.size + 1) p s As cs e wr hwd (by omega) HI.out hsz
      have i1 : (0 : Int) ≤ (p : Int) := by omega
      have i2 : (p : Int) < (h.length : Int) := by omega
      have HST := Lib.hid hst
      have HPU := Lib.hid hput
      generalize putE s e = pe at *
      obtain ⟨t, k, a, x, o, er⟩ := e
      simp only at e0 e1 e2 e3 e4 e5
      have HE := Lib.hid he.out
      clear hst hput he HX hwd HW HB HO HR
      go_wp2_with (go_at_call 89; refine halt_ ?_)
      refine Halt_.go ?_
      refine HPU.out.mono ?_
      rintro e' w2 ⟨rfl, hb2, hnext⟩
      have HB2 := Lib.hid (HBL.out.trans (hb2.mono (Nat.le_succ _)))
      have HO2 := Lib.hid (HO1.out.below (Nat.lt_succ_self _) hb2)
      have HNX := Lib.hid hnext
      have hs2 : w.heap.size + 1 ≤ w2.heap.size := HO2.out.lt.2
      clear hb2 hnext HPU HI HBL HO1
      by_cases hpe : pe = 0
      · subst hpe
        obtain ⟨A', c', hI2⟩ := HNX.out rfl
        have HI2 := Lib.hid hI2
        have HX2 := Lib.hid (show R = chk (adv s ⟨t, k, a, x, o, er⟩) (h.drop (p + 1)) (p + 1) by rw [HST.out, if_pos rfl])
        clear hI2 HNX HST
        go_wp2
        go_roundw
        case rel => exact ⟨p + 1, _, A', c', hlt, by go_num, HI2, HX2, HB2, HO2⟩
        case measure => simp [intOf]; omega
      · have hR : R = ((p : Int), pe) := by rw [HST.out, if_neg hpe]
        subst hR
        have e7 : (pe != 0) = true := by simpa using hpe
        have hq1 := (HO2.out.cell (j := 0) (by omega)).2
        have hq2 := (HO2.out.cell (j := 0) (by omega)).1
        have hq3 := (HO2.out.cell (j := 1) (by omega)).2
        have hq4 := (HO2.out.cell (j := 1) (by omega)).1
        have hf := (HO2.out.set 0 (.int .i64 p)).set 1 (.int .i64 pe)
        have hc0 := (hf.cell (j := 0) (by omega)).1
        have hc1 := (hf.cell (j := 1) (by omega)).1
        simp only [if_true, if_false, Nat.reduceEqDiff, Nat.zero_ne_one, Nat.one_ne_zero] at hc0 hc1
        have hBF := ((HB2.out.setCell (p := ⟨w.heap.size, 0, none⟩) (Nat.le_refl _) (.int .i64 p)).setCell (p := ⟨w.heap.size, 1, none⟩) (Nat.le_refl _) (.int .i64 pe))
        have HC0 := Lib.hid hc0
        have HC1 := Lib.hid hc1
        have HBF := Lib.hid hBF
        clear hf hc0 hc1 hBF HNX HST hpe
        go_wp2
        refine bodyPost_ret (v := oddV ((p : Int), pe)) (by simp [results, Try.results58, go_sem, HC0.out, HC1.out, oddV]) rfl ?_
        exact ⟨rfl, HBF.out⟩
    · obtain rfl : p = h.length := by omega
      have hx := HX.out
      rw [chk_end] at hx
      subst hx
      have hq1 := (HO1.out.cell (j := 0) (by omega)).2
      have hq2 := (HO1.out.cell (j := 0) (by omega)).1
      have hq3 := (HO1.out.cell (j := 1) (by omega)).2
      have hq4 := (HO1.out.cell (j := 1) (by omega)).1
      have hf := (HO1.out.set 0 (.int .i64 (-1))).set 1 (.int .i64 0)
      have hc0 := (hf.cell (j := 0) (by omega)).1
      have hc1 := (hf.cell (j := 1) (by omega)).1
      simp only [if_true, if_false, Nat.reduceEqDiff, Nat.zero_ne_one, Nat.one_ne_zero] at hc0 hc1
      have hBF := ((HBL.out.setCell (p := ⟨w.heap.size, 0, none⟩) (Nat.le_refl _) (.int .i64 (-1))).setCell (p := ⟨w.heap.size, 1, none⟩) (Nat.le_refl _) (.int .i64 0))
      have HC0 := Lib.hid hc0
      have HC1 := Lib.hid hc1
      have HBF := Lib.hid hBF
      clear hf hc0 hc1 hBF
      go_wp2
      refine bodyPost_ret (v := oddV (-1, 0)) (by simp [results, Try.results58, go_sem, HC0.out, HC1.out, oddV]) rfl ?_
      exact ⟨rfl, HBF.out⟩
end Go.Proofs.Ytjifpjfinffamaa
end
section
namespace Go.Proofs.Ytjifpjfinffamaa
open Go.RowKit
def marksE : List E := [⟨-7, 0, 0⟩, ⟨-8, 0, 0⟩]
def LentE (w : World) (base g : Nat) (cap : Nat) (l : List E) : Prop :=
  base ≤ g ∧ g < w.heap.size ∧ l.length + 2 ≤ cap ∧ w.ownsRow base 69 3 (.slice (some ⟨g, 0, none⟩) (l.length + 2) cap) (l.length + 2) (l.flatMap ecells ++ marksE.flatMap ecells)
theorem LentE.reads {w : World} {base g cap : Nat} {l : List E} (h : LentE w base g cap l) : RE w w.heap.size (some ⟨g, 0, none⟩) l := RE.of_own h.2.2.2
theorem LentE.below {w w' : World} {base g cap : Nat} {l : List E} (h : LentE w base g cap l) {B : Nat} (hB : g < B) (hb : Below B w w') : LentE w' base g cap l := by
  obtain ⟨h1, h2, h3, h4⟩ := h
  refine ⟨h1, Nat.lt_of_lt_of_le h2 hb.size, h3, h4.1, ?_⟩
  rcases h4.2 with ⟨hn, _⟩ | ⟨g', cap', cur, hv, hbg, hg, rest⟩
  · cases hn
  · refine .inr ⟨g', cap', cur, hv, hbg, ?_, rest⟩
    have : g' = g := by injection hv with hv; injection hv with hv; injection hv with hv; exact hv.symm
    subst this
    rw [hb.block g' hB]; exact hg
def marksI : List Int := [-7000, -7001, -7002]
def LentI (w : World) (base g : Nat) (cap : Nat) (xs : List Int) : Prop :=
  base ≤ g ∧ g < w.heap.size ∧ xs.length + 3 ≤ cap ∧ w.ownsRow base 3 1 (.slice (some ⟨g, 0, none⟩) (xs.length + 3) cap) (xs.length + 3) ((xs ++ marksI).map (Value.int .i64))
theorem LentI.reads {w : World} {base g cap : Nat} {xs : List Int} (h : LentI w base g cap xs) : RK .i64 w w.heap.size (some ⟨g, 0, none⟩) xs := by
  intro hn
  refine ⟨g, 0, rfl, h.2.1, fun i hi => ?_⟩
  have := h.2.2.2.cells (g := g) rfl i (.int .i64 xs[i]) (by rw [List.map_append, List.getElem?_append_left (by simpa using hi)]; simp [hi])
  rwa [Addr.add_lit] at this
theorem LentI.below {w w' : World} {base g cap : Nat} {xs : List Int} (h : LentI w base g cap xs) {B : Nat} (hB : g < B) (hb : Below B w w') : LentI w' base g cap xs := by
  obtain ⟨h1, h2, h3, h4⟩ := h
  refine ⟨h1, Nat.lt_of_lt_of_le h2 hb.size, h3, h4.1, ?_⟩
  rcases h4.2 with ⟨hn, _⟩ | ⟨g', cap', cur, hv, hbg, hg, rest⟩
  · cases hn
  · refine .inr ⟨g', cap', cur, hv, hbg, ?_, rest⟩
    have : g' = g := by injection hv with hv; injection hv with hv; injection hv with hv; exact hv.symm
    subst this
    rw [hb.block g' hB]; exact hg
end Go.Proofs.Ytjifpjfinffamaa
end
section
namespace Go.Proofs.Ytjifpjfinffamaa
open Go.RowKit
set_option maxHeartbeats 800000 in
theorem sameEvents_any (A B : Option Addr) (c d : Nat) (l : List Ev) (w : World) (hx : EvR w w.heap.size A l) (hy : EvR w w.heap.size B l) (hl : l.length ≤ 1099511627776) :
    Calls Try.prog 62 #[.slice A l.length c, .slice B l.length d] w fun e w' => e = .returned (.bool true) ∧ ∃ m, w' = w.drewN m := by
  have hne : ((l.length : Int) != l.length) = false := by simp
  go_enter Try.func62, Try.ntmps62
  go_wp2
  go_loopw [5] (fun i wr => ∃ k : Nat, k ≤ l.length ∧ i = .int .i64 k ∧ ∃ m, wr = w.drewN m) (fun i _ => l.length - (intOf i).toNat)
  case atStart => exact ⟨0, Nat.zero_le _, rfl, 0, rfl⟩
  case round =>
    obtain ⟨k, hk, rfl, m, rfl⟩ := hrel
    by_cases hlt : k < l.length
    · obtain ⟨b, off, e, rfl, hb, he, _, h0, h1, h2, h3, h4, h5⟩ := hx.at_ (Below.refl _ _) hlt
      obtain ⟨b2, off2, e2, rfl, hb2, he2, _, g0, g1, g2, g3, g4, g5⟩ := hy.at_ (Below.refl _ _) hlt
      have hee : e2 = e := by
        have := he.out.symm.trans he2.out
        simpa using this.symm
      subst hee
      obtain ⟨t, kk, a, x, o, er⟩ := e2
      simp only at h0 h1 h2 h3 h4 h5 g0 g1 g2 g3 g4 g5
      clear hx hy hne he he2
      have i1 : (0 : Int) ≤ (k : Int) := by omega
      have i2 : (k : Int) < (l.length : Int) := by omega
      go_wp2
      go_quiet (fail)
      go_wp2
      go_roundw
      case rel => exact ⟨k + 1, by omega, by go_num, _, rfl⟩
      case measure => simp [intOf]; omega
    · go_wp2
      go_ret
      exact ⟨rfl, m, rfl⟩
theorem wrong15_any (A : Option Addr) (cap : Nat) (l : List Ev) (w : World) (hl : l.length ≤ 1099511627776) (hc : EvR w w.heap.size A l) :
    Calls Try.prog 14 #[.slice A l.length cap] w fun e w' => e = .returned (.int .i64 (chk ss0 l 0).2) ∧ Below w.heap.size w w' := by
  have HG := Lib.hid (refCheck_any A cap l w hl hc)
  clear hc
  generalize chk ss0 l 0 = R at *
  obtain ⟨x, y⟩ := R
  go_enter Try.func14, Try.ntmps14
  go_wp2_with (go_at_call 58; refine halt_ ?_)
  refine Halt_.go ?_
  refine HG.out.mono ?_
  rintro e w1 ⟨rfl, hb⟩
  have HB := Lib.hid (hb.alloc hb.size (.cells #[.int .i64 x, .int .i64 y] 99))
  clear hb HG
  unfold oddV
  go_wp2
  go_ret
  exact ⟨rfl, HB.out⟩
def ecell (e : Ev) : List Value := [.int .i64 e.th, .int .i64 e.kind, .int .u64 e.addr, .int .u64 e.word, .bool e.own, .int .i64 e.err]
def markV : List Value := [.int .i64 0, .int .i64 99, .int .u64 0, .int .u64 0, .bool false, .int .i64 0]
theorem info97 : (Try.prog.info? 97).map (fun i => (i.zero, i.size, i.bytes)) = some (some (.agg #[.int .i64 0, .int .i64 0, .int .u64 0, .int .u64 0, .bool false, .int .i64 0]), 6, 48) := by kernel_rfl
theorem ecell_len (l : List Ev) : (l.flatMap ecell).length = l.length * 6 := by
  induction l with
  | nil => rfl
  | cons e r ih => simp [List.flatMap_cons, ih, ecell]; omega
theorem ecell_get : ∀ (l : List Ev) (i : Nat) (h : i < l.length), (l.flatMap ecell)[i * 6]? = some (.int .i64 l[i].th) ∧ (l.flatMap ecell)[i * 6 + 1]? = some (.int .i64 l[i].kind) ∧ (l.flatMap ecell)[i * 6 + 2]? = some (.int .u64 l[i].addr) ∧
    (l.flatMap ecell)[i * 6 + 3]? = some (.int .u64 l[i].word) ∧ (l.flatMap ecell)[i * 6 + 4]? = some (.bool l[i].own) ∧ (l.flatMap ecell)[i * 6 + 5]? = some (.int .i64 l[i].err)
  | [], i, h => by simp at h
  | e :: r, 0, h => by simp [List.flatMap_cons, ecell]
  | e :: r, i + 1, h => by
    have hi : i < r.length := by simpa using h
    have ih := ecell_get r i hi
    have e1 : (i + 1) * 6 = i * 6 + 6 := by omega
    have l6 : (ecell e).length = 6 := rfl
    rw [List.flatMap_cons, e1]
    have hk : ∀ j v, (r.flatMap ecell)[i * 6 + j]? = some v → (ecell e ++ r.flatMap ecell)[i * 6 + 6 + j]? = some v := fun j v hv => by
      rw [List.getElem?_append_right (by omega), l6, show i * 6 + 6 + j - 6 = i * 6 + j by omega]
      exact hv
    exact ⟨hk 0 _ ih.1, hk 1 _ ih.2.1, hk 2 _ ih.2.2.1, hk 3 _ ih.2.2.2.1, hk 4 _ ih.2.2.2.2.1, hk 5 _ ih.2.2.2.2.2⟩
theorem ecell_one (l : List Ev) : ∀ u ∈ l.flatMap ecell, u.oneCell' = true := by
  intro u hu
  obtain ⟨e, _, hu⟩ := List.mem_flatMap.1 hu
  simp [ecell] at hu
  rcases hu with rfl | rfl | rfl | rfl | rfl | rfl <;> rfl
theorem EvR.of_cells {w : World} {B g : Nat} {l : List Ev} (hwd : ∀ e ∈ l, e.Wd) (hg : g < B) (h : ∀ j u, (l.flatMap ecell)[j]? = some u → w.cell? ⟨g, j, none⟩ = some u) : EvR w B (some ⟨g, 0, none⟩) l := by
  refine ⟨hwd, fun _ => ⟨g, 0, rfl, hg, fun i hi => ?_⟩⟩
  obtain ⟨h0, h1, h2, h3, h4, h5⟩ := ecell_get l i hi
  simp only [Nat.zero_add]
  exact ⟨h _ _ h0, h _ _ h1, h _ _ h2, h _ _ h3, h _ _ h4, h _ _ h5⟩
theorem EvR.cells {w : World} {B : Nat} {A : Option Addr} {l : List Ev} (h : EvR w B A l) : ∀ ad, A = some ad → ∀ j u, (l.flatMap ecell)[j]? = some u → w.cell? (ad.add j) = some u := by
  intro ad hA j u hu
  have hj : j < l.length * 6 := by
    have := (List.getElem?_eq_some_iff.1 hu).1
    rwa [ecell_len] at this
  obtain ⟨b, off, e, hb, hc⟩ := h.2 (by omega)
  rw [hA] at e
  injection e with e
  subst e
  rw [Addr.add_lit]
  have hi : j / 6 < l.length := by omega
  obtain ⟨a0, a1, a2, a3, a4, a5⟩ := hc (j / 6) hi
  obtain ⟨b0, b1, b2, b3, b4, b5⟩ := ecell_get l (j / 6) hi
  have hm : j % 6 = 0 ∨ j % 6 = 1 ∨ j % 6 = 2 ∨ j % 6 = 3 ∨ j % 6 = 4 ∨ j % 6 = 5 := by omega
  rcases hm with h3 | h3 | h3 | h3 | h3 | h3
  · have ej : j = j / 6 * 6 := by omega
    rw [ej] at hu ⊢
    rw [b0] at hu
    exact a0.trans hu
  · have ej : j = j / 6 * 6 + 1 := by omega
    rw [ej] at hu ⊢
    rw [b1] at hu
    exact a1.trans hu
  · have ej : j = j / 6 * 6 + 2 := by omega
    rw [ej] at hu ⊢
    rw [b2] at hu
    exact a2.trans hu
  · have ej : j = j / 6 * 6 + 3 := by omega
    rw [ej] at hu ⊢
    rw [b3] at hu
    exact a3.trans hu
  · have ej : j = j / 6 * 6 + 4 := by omega
    rw [ej] at hu ⊢
    rw [b4] at hu
    exact a4.trans hu
  · have ej : j = j / 6 * 6 + 5 := by omega
    rw [ej] at hu ⊢
    rw [b5] at hu
    exact a5.trans hu
theorem EvR.none_ {w : World} {B : Nat} {A : Option Addr} {l : List Ev} (h : EvR w B A l) (hA : A = none) : l.length = 0 := by
  rcases Nat.eq_zero_or_pos l.length with h0 | h0
  · exact h0
  · obtain ⟨b, off, e, _⟩ := h.2 h0
    rw [hA] at e; cases e
end Go.Proofs.Ytjifpjfinffamaa
end
section
namespace Go.Proofs.Ytjifpjfinffamaa
open Go.ChangeShapes Go.WideShapes Go.ChangeAt Go.RowKit
theorem Try.own : ownKnob Try.prog.godebug = none := by kernel_rfl
theorem cells3 : Try.prog.cellsOf 3 = 1 := by kernel_rfl
end Go.Proofs.Ytjifpjfinffamaa
end
section
namespace Go.Proofs.Ytjifpjfinffamaa
open Go.ChangeShapes Go.WideShapes Go.ChangeAt Go.RowKit
theorem cells97 : Try.prog.cellsOf 97 = 6 := by kernel_rfl
theorem bytes97 : Try.prog.bytesOf 97 = 48 := by kernel_rfl
theorem cells95 : Try.prog.cellsOf 95 = 1 := by kernel_rfl
theorem cells40 : Try.prog.cellsOf 40 = 1 := by kernel_rfl
theorem cells4 : Try.prog.cellsOf 4 = 1 := by kernel_rfl
theorem cells28 : Try.prog.cellsOf 28 = 1 := by kernel_rfl
theorem wf_u64_inv {n : Int} (h : (Lit.int .u64 n).wf = true) : 0 ≤ n ∧ n < 18446744073709551616 := by
  simp [Lit.wf, IntKind.min, IntKind.max, IntKind.signed, IntKind.bits] at h
  omega
section
variable {H : Type} {enc : TypeId × Value → H} {w : World} {base : Nat} {r : Reach}
set_option maxRecDepth 100000 in
theorem open_events {v : Value} {d : DataW H} {p : List MemPlace} (hv : Value.okWide Try.prog w r base 22 v) (h : DataW.Trod enc Try.prog w 0 (fun _ => true) true 22 v d p) :
    ∃ (A : Option Addr) (c : Nat) (l : List Ev), v = .slice A l.length c ∧ EvR w w.heap.size A l ∧ (d = .nil ∧ l = [] ∨ ∃ es sp, d = .slice es sp ∧ es.length = l.length) ∧ ∀ x ∈ p, x.block < w.heap.size := by
  obtain ⟨A, len, c, rfl⟩ := okWide_slice Try.underlying22 hv
  obtain ⟨m, hm⟩ := h
  have hlt := DataW.trod_lt m _ _ _ hm
  rcases Go.Deep.open_slice Try.underlying22 hm with ⟨hcs, hx⟩ | ⟨a, len', c', m', n', D, Pl, hcs, _, hl, _, hmm, hx, hi⟩
  · simp [Value.cells] at hcs
    obtain ⟨rfl, rfl, rfl⟩ := hcs
    simp only [Prod.mk.injEq] at hx
    exact ⟨none, 0, [], rfl, ⟨by simp, fun h => absurd h (by simp)⟩, .inl ⟨hx.1, rfl⟩, hlt⟩
  · simp [Value.cells] at hcs
    obtain ⟨rfl, rfl, rfl⟩ := hcs
    simp only [Prod.mk.injEq] at hx
    have hrow : ∀ i, i < len → ∃ x : Ev, x.Wd ∧ w.cell? (a.add (i * 6)) = some (.int .i64 x.th) ∧ w.cell? (a.add (i * 6 + 1)) = some (.int .i64 x.kind) ∧ w.cell? (a.add (i * 6 + 2)) = some (.int .u64 x.addr) ∧
        w.cell? (a.add (i * 6 + 3)) = some (.int .u64 x.word) ∧ w.cell? (a.add (i * 6 + 4)) = some (.bool x.own) ∧ w.cell? (a.add (i * 6 + 5)) = some (.int .i64 x.err) := by
      intro i hil
      obtain ⟨cs, hc, ht⟩ := hi i (by simp at hmm; omega)
      rw [cells97] at hc
      obtain ⟨xs, n, _, _, _, hlen, hf⟩ := DataW.trod_struct Try.underlying97 ht
      obtain ⟨_, hlen2, hat⟩ := World.cells?_some hc
      match cs, hlen2, xs, hlen with
      | [c0, c1, c2, c3, c4, c5], _, [y0, y1, y2, y3, y4, y5], _ =>
        have h0 := hf 0 _ rfl
        have h1 := hf 1 _ rfl
        have h2 := hf 2 _ rfl
        have h3 := hf 3 _ rfl
        have h4 := hf 4 _ rfl
        have h5 := hf 5 _ rfl
        obtain ⟨x0, e0, _, _⟩ := DataW.trod_int Try.underlying3 (show DataW.trod enc Try.prog w 0 (fun _ => true) true n 3 (([c0, c1, c2, c3, c4, c5].drop 0).take (Try.prog.cellsOf 3)) = some y0 from h0)
        obtain ⟨x1, e1, _, _⟩ := DataW.trod_int Try.underlying95 (show DataW.trod enc Try.prog w 0 (fun _ => true) true n 95 (([c0, c1, c2, c3, c4, c5].drop 1).take (Try.prog.cellsOf 95)) = some y1 from h1)
        obtain ⟨x2, e2, _, wf2⟩ := DataW.trod_int Try.underlying40 (show DataW.trod enc Try.prog w 0 (fun _ => true) true n 40 (([c0, c1, c2, c3, c4, c5].drop 2).take (Try.prog.cellsOf 40)) = some y2 from h2)
        obtain ⟨x3, e3, _, wf3⟩ := DataW.trod_int Try.underlying40 (show DataW.trod enc Try.prog w 0 (fun _ => true) true n 40 (([c0, c1, c2, c3, c4, c5].drop 3).take (Try.prog.cellsOf 40)) = some y3 from h3)
        obtain ⟨x4, e4, _⟩ := DataW.trod_bool Try.underlying4 (show DataW.trod enc Try.prog w 0 (fun _ => true) true n 4 (([c0, c1, c2, c3, c4, c5].drop 4).take (Try.prog.cellsOf 4)) = some y4 from h4)
        obtain ⟨x5, e5, _, _⟩ := DataW.trod_int Try.underlying28 (show DataW.trod enc Try.prog w 0 (fun _ => true) true n 28 (([c0, c1, c2, c3, c4, c5].drop 5).take (Try.prog.cellsOf 28)) = some y5 from h5)
        simp [cells3, cells95, cells40, cells4, cells28] at e0 e1 e2 e3 e4 e5
        subst e0 e1 e2 e3 e4 e5
        have q0 := hat 0 (by omega)
        have q1 := hat 1 (by omega)
        have q2 := hat 2 (by omega)
        have q3 := hat 3 (by omega)
        have q4 := hat 4 (by omega)
        have q5 := hat 5 (by omega)
        rw [Go.Deep.add_add] at q0 q1 q2 q3 q4 q5
        have b2 := wf_u64_inv wf2
        have b3 := wf_u64_inv wf3
        exact ⟨⟨x0, x1, x2, x3, x4, x5⟩, ⟨b2, b3⟩, by simpa using q0, by simpa using q1, by simpa using q2, by simpa using q3, by simpa using q4, by simpa using q5⟩
    have hF : ∃ F : Nat → Ev, ∀ i, i < len → (F i).Wd ∧ w.cell? (a.add (i * 6)) = some (.int .i64 (F i).th) ∧ w.cell? (a.add (i * 6 + 1)) = some (.int .i64 (F i).kind) ∧ w.cell? (a.add (i * 6 + 2)) = some (.int .u64 (F i).addr) ∧
        w.cell? (a.add (i * 6 + 3)) = some (.int .u64 (F i).word) ∧ w.cell? (a.add (i * 6 + 4)) = some (.bool (F i).own) ∧ w.cell? (a.add (i * 6 + 5)) = some (.int .i64 (F i).err) := by
      refine ⟨fun i => if h : i < len then (hrow i h).choose else ⟨0, 0, 0, 0, false, 0⟩, fun i hil => ?_⟩
      simp only [hil, dite_true]
      exact (hrow i hil).choose_spec
    obtain ⟨F, hF⟩ := hF
    refine ⟨some a, c, (List.range len).map F, by simp, ⟨fun e he => ?_, fun hpos => ?_⟩, .inr ⟨_, _, hx.1, by simp⟩, hlt⟩
    · obtain ⟨i, hi, rfl⟩ := List.mem_map.1 he
      exact (hF i (List.mem_range.1 hi)).1
    · obtain ⟨b, off, spot⟩ := a
      have hs : spot = none := by
        have := (hF 0 (by simpa using hpos)).2.1
        simpa [Addr.add] using World.cell?_spot this
      subst hs
      refine ⟨b, off, rfl, ?_, fun i hi => ?_⟩
      · have := (hF 0 (by simpa using hpos)).2.1
        exact World.block_lt_of_cell? w _ this
      · have := (hF i (by simpa using hi)).2
        simp only [Addr.add_lit] at this
        simpa [Nat.add_assoc] using this
theorem sized_events {ts : List TypeId} {ds : List (DataW H)} (h : (DataW.weightsEach Try.prog ts ds).all (· ≤ reachBytes) = true) {j : Nat} {d : DataW H} {l : List Ev} (ht : ts[j]? = some 22) (hd : ds[j]? = some d)
    (hq : d = .nil ∧ l = [] ∨ ∃ es sp, d = .slice es sp ∧ es.length = l.length) : l.length * 48 ≤ 140737488351232 := by
  rcases hq with ⟨_, rfl⟩ | ⟨es, sp, rfl, he⟩
  · simp
  · have := sized_slice h ht hd Try.underlying22
    rw [bytes97, he] at this
    simp only [reachBytes] at this
    omega
end
end Go.Proofs.Ytjifpjfinffamaa
end
section
namespace Go.Proofs.Ytjifpjfinffamaa
inductive Cl (R : Nat → Nat → Prop) : Nat → Nat → Prop
  | one {p q : Nat} : R p q → Cl R p q
  | step {p r q : Nat} : Cl R p r → R r q → Cl R p q
theorem Cl.trans {R : Nat → Nat → Prop} {p r q : Nat} (h : Cl R p r) (h2 : Cl R r q) : Cl R p q := by
  induction h2 with
  | one hr => exact .step h hr
  | step _ hr ih => exact .step ih hr
theorem Cl.mono {R R' : Nat → Nat → Prop} (hm : ∀ p q, R p q → R' p q) {p q : Nat} (h : Cl R p q) : Cl R' p q := by
  induction h with
  | one hr => exact .one (hm _ _ hr)
  | step _ hr ih => exact .step ih (hm _ _ hr)
def fw (k : Nat) (A : Nat → Nat → Bool) : Nat → Nat → Bool := fun i j => A i j || (A i k && A k j)
def fwN (A : Nat → Nat → Bool) : Nat → Nat → Nat → Bool
  | 0 => A
  | k + 1 => fw k (fwN A k)
theorem fwN_le (A : Nat → Nat → Bool) : ∀ k i j, A i j = true → fwN A k i j = true
  | 0, _, _, h => h
  | k + 1, i, j, h => by
    show (fwN A k i j || _) = true
    rw [fwN_le A k i j h]
    rfl
theorem fwN_cl (A : Nat → Nat → Bool) : ∀ k i j, fwN A k i j = true → Cl (fun i j => A i j = true) i j
  | 0, _, _, h => .one h
  | k + 1, i, j, h => by
    have h' : (fwN A k i j || (fwN A k i k && fwN A k k j)) = true := h
    simp only [Bool.or_eq_true, Bool.and_eq_true] at h'
    rcases h' with h1 | ⟨h1, h2⟩
    · exact fwN_cl A k i j h1
    · exact (fwN_cl A k i k h1).trans (fwN_cl A k k j h2)
theorem fwN_by (A : Nat → Nat → Bool) : ∀ k r, r < k → ∀ i j, fwN A k i r = true → fwN A k r j = true → fwN A k i j = true
  | 0, r, hr, _, _, _, _ => by omega
  | k + 1, r, hr, i, j, h1, h2 => by
    have e : ∀ i j, fwN A (k + 1) i j = (fwN A k i j || (fwN A k i k && fwN A k k j)) := fun _ _ => rfl
    rw [e] at h1 h2 ⊢
    simp only [Bool.or_eq_true, Bool.and_eq_true] at h1 h2 ⊢
    by_cases hk : r = k
    · subst hk
      have a : fwN A r i r = true := h1.elim id And.left
      have b : fwN A r r j = true := h2.elim id And.right
      exact .inr ⟨a, b⟩
    · have ih := fwN_by A k r (by omega)
      rcases h1 with h1 | ⟨h1, h3⟩
      · rcases h2 with h2 | ⟨h2, h4⟩
        · exact .inl (ih _ _ h1 h2)
        · exact .inr ⟨ih _ _ h1 h2, h4⟩
      · rcases h2 with h2 | ⟨h2, h4⟩
        · exact .inr ⟨h1, ih _ _ h3 h2⟩
        · exact .inr ⟨h1, h4⟩
theorem fwN_iff (A : Nat → Nat → Bool) (n : Nat) (hA : ∀ i j, A i j = true → i < n ∧ j < n) (i j : Nat) : fwN A n i j = true ↔ Cl (fun i j => A i j = true) i j := by
  refine ⟨fwN_cl A n i j, fun h => ?_⟩
  induction h with
  | one h => exact fwN_le A n _ _ h
  | step _ hr ih => exact fwN_by A n _ (hA _ _ hr).1 _ _ ih (fwN_le A n _ _ hr)
def fwP (A : Nat → Nat → Bool) (k p q : Nat) : Nat → Nat → Bool := fun i j => if i < p ∨ (i = p ∧ j < q) then fw k A i j else A i j
theorem fwP_col (A : Nat → Nat → Bool) (k p q i : Nat) : fwP A k p q i k = A i k := by
  unfold fwP fw
  split
  · cases A i k <;> simp
  · rfl
theorem fwP_row (A : Nat → Nat → Bool) (k p q j : Nat) : fwP A k p q k j = A k j := by
  unfold fwP fw
  split
  · cases A k j <;> simp
  · rfl
theorem fwP_at (A : Nat → Nat → Bool) (k p q : Nat) : fwP A k p q p q = A p q := by
  unfold fwP
  rw [if_neg (by omega)]
theorem fwP_step (A : Nat → Nat → Bool) (k p q : Nat) : (fun i j => if i = p ∧ j = q then fw k A p q else fwP A k p q i j) = fwP A k p (q + 1) := by
  funext i j
  unfold fwP
  by_cases h : i = p ∧ j = q
  · obtain ⟨rfl, rfl⟩ := h
    rw [if_pos ⟨rfl, rfl⟩, if_pos (by omega)]
  · rw [if_neg h]
    by_cases h2 : i < p ∨ (i = p ∧ j < q)
    · rw [if_pos h2, if_pos (by omega)]
    · rw [if_neg h2, if_neg (by omega)]
theorem fwP_start (A : Nat → Nat → Bool) (k : Nat) : fwP A k 0 0 = A := by
  funext i j
  unfold fwP
  rw [if_neg (by omega)]
structure Cal (N : Nat) (th tn : Nat → Nat) (own : Nat → List Nat) (sg : List Nat) : Prop where
  own_at : ∀ p, p < N → (own (th p))[tn p]? = some p
  own_of : ∀ (t d p : Nat), (own t)[d]? = some p → p < N ∧ th p = t ∧ tn p = d
  sg_lt : ∀ (i p : Nat), sg[i]? = some p → p < N
  sg_nd : ∀ (i j p : Nat), sg[i]? = some p → sg[j]? = some p → i = j
  mono : ∀ (i j p q : Nat), sg[i]? = some p → sg[j]? = some q → th p = th q → tn p < tn q → i < j
def StepR (N : Nat) (th tn : Nat → Nat) (sg : List Nat) (p q : Nat) : Prop := (p < N ∧ q < N) ∧ ((th p = th q ∧ tn p < tn q) ∨ ∃ i j : Nat, i < j ∧ sg[i]? = some p ∧ sg[j]? = some q)
section
variable {N : Nat} {th tn : Nat → Nat} {own : Nat → List Nat} {sg : List Nat}
theorem Cal.pred_plain (h : Cal N th tn own sg) {p : Nat} (hp : p < N) (hb : ∀ i : Nat, sg[i]? ≠ some p) (q : Nat) :
    Cl (StepR N th tn sg) q p ↔ ∃ r, (own (th p))[tn p - 1]? = some r ∧ 0 < tn p ∧ (q = r ∨ Cl (StepR N th tn sg) q r) := by
  have key : ∀ r, StepR N th tn sg r p → ∃ s, (own (th p))[tn p - 1]? = some s ∧ 0 < tn p ∧ (r = s ∨ StepR N th tn sg r s) := by
    rintro r ⟨⟨hr, _⟩, ⟨h1, h2⟩ | ⟨i, j, _, _, h3⟩⟩
    · have hlen : tn p < (own (th p)).length := (List.getElem?_eq_some_iff.1 (h.own_at p hp)).1
      obtain ⟨s, hs⟩ : ∃ s, (own (th p))[tn p - 1]? = some s := ⟨_, List.getElem?_eq_getElem (by omega)⟩
      obtain ⟨a, b, c⟩ := h.own_of _ _ _ hs
      refine ⟨s, hs, by omega, ?_⟩
      by_cases e : tn r = tn p - 1
      · left
        have := h.own_at r hr
        rw [h1, e, hs] at this
        exact (Option.some.inj this).symm
      · exact .inr ⟨⟨hr, a⟩, .inl ⟨by omega, by omega⟩⟩
    · exact absurd h3 (hb j)
  constructor
  · intro hc
    cases hc with
    | one hr =>
      obtain ⟨s, h1, h2, h3⟩ := key _ hr
      exact ⟨s, h1, h2, h3.imp id .one⟩
    | step hc hr =>
      obtain ⟨s, h1, h2, h3⟩ := key _ hr
      refine ⟨s, h1, h2, .inr ?_⟩
      rcases h3 with rfl | h3
      · exact hc
      · exact .step hc h3
  · rintro ⟨s, h1, h2, h3⟩
    obtain ⟨a, b, c⟩ := h.own_of _ _ _ h1
    have hs : StepR N th tn sg s p := ⟨⟨a, hp⟩, .inl ⟨b, by omega⟩⟩
    rcases h3 with rfl | h3
    · exact .one hs
    · exact .step h3 hs
theorem Cal.pred_block (h : Cal N th tn own sg) {p j : Nat} (hj : sg[j]? = some p) (q : Nat) :
    Cl (StepR N th tn sg) q p ↔ (∃ r, (own (th p))[tn p - 1]? = some r ∧ 0 < tn p ∧ (q = r ∨ Cl (StepR N th tn sg) q r)) ∨ ∃ r, sg[j - 1]? = some r ∧ 0 < j ∧ (q = r ∨ Cl (StepR N th tn sg) q r) := by
  have hp := h.sg_lt _ _ hj
  have key : ∀ r, StepR N th tn sg r p → (∃ s, (own (th p))[tn p - 1]? = some s ∧ 0 < tn p ∧ (r = s ∨ StepR N th tn sg r s)) ∨ ∃ s, sg[j - 1]? = some s ∧ 0 < j ∧ (r = s ∨ StepR N th tn sg r s) := by
    rintro r ⟨⟨hr, _⟩, ⟨h1, h2⟩ | ⟨i, j', hij, h2, h3⟩⟩
    · left
      have hlen : tn p < (own (th p)).length := (List.getElem?_eq_some_iff.1 (h.own_at p hp)).1
      obtain ⟨s, hs⟩ : ∃ s, (own (th p))[tn p - 1]? = some s := ⟨_, List.getElem?_eq_getElem (by omega)⟩
      obtain ⟨a, b, c⟩ := h.own_of _ _ _ hs
      refine ⟨s, hs, by omega, ?_⟩
      by_cases e : tn r = tn p - 1
      · left
        have := h.own_at r hr
        rw [h1, e, hs] at this
        exact (Option.some.inj this).symm
      · exact .inr ⟨⟨hr, a⟩, .inl ⟨by omega, by omega⟩⟩
    · right
      obtain rfl := h.sg_nd _ _ _ h3 hj
      have hlen : j' < sg.length := (List.getElem?_eq_some_iff.1 hj).1
      obtain ⟨s, hs⟩ : ∃ s, sg[j' - 1]? = some s := ⟨_, List.getElem?_eq_getElem (by omega)⟩
      refine ⟨s, hs, by omega, ?_⟩
      by_cases e : i = j' - 1
      · left
        rw [e, hs] at h2
        exact (Option.some.inj h2).symm
      · exact .inr ⟨⟨hr, h.sg_lt _ _ hs⟩, .inr ⟨i, j' - 1, by omega, h2, hs⟩⟩
  constructor
  · intro hc
    cases hc with
    | one hr =>
      rcases key _ hr with ⟨s, h1, h2, h3⟩ | ⟨s, h1, h2, h3⟩
      · exact .inl ⟨s, h1, h2, h3.imp id .one⟩
      · exact .inr ⟨s, h1, h2, h3.imp id .one⟩
    | step hc hr =>
      rcases key _ hr with ⟨s, h1, h2, h3⟩ | ⟨s, h1, h2, h3⟩
      · refine .inl ⟨s, h1, h2, .inr ?_⟩
        rcases h3 with rfl | h3
        · exact hc
        · exact .step hc h3
      · refine .inr ⟨s, h1, h2, .inr ?_⟩
        rcases h3 with rfl | h3
        · exact hc
        · exact .step hc h3
  · rintro (⟨s, h1, h2, h3⟩ | ⟨s, h1, h2, h3⟩)
    · obtain ⟨a, b, c⟩ := h.own_of _ _ _ h1
      have hs : StepR N th tn sg s p := ⟨⟨a, hp⟩, .inl ⟨b, by omega⟩⟩
      rcases h3 with rfl | h3
      · exact .one hs
      · exact .step h3 hs
    · have hs : StepR N th tn sg s p := ⟨⟨h.sg_lt _ _ h1, hp⟩, .inr ⟨j - 1, j, by omega, h1, hj⟩⟩
      rcases h3 with rfl | h3
      · exact .one hs
      · exact .step h3 hs
structure Ck where
  sn : Nat → Nat → Nat
  dn : Nat → Nat
def jn (th tn : Nat → Nat) (c : Nat → Nat → Nat) (p q : Nat) : Nat → Nat → Nat := fun i t => if i = p then (if t = th q then max (max (c p t) (c q t)) (tn q + 1) else max (c p t) (c q t)) else c i t
def up1 (th tn : Nat → Nat) (own : Nat → List Nat) (c : Ck) (t : Nat) : Ck :=
  ⟨if 0 < c.dn t then jn th tn c.sn ((own t).getD (c.dn t) 0) ((own t).getD (c.dn t - 1) 0) else c.sn, fun x => if x = t then c.dn t + 1 else c.dn x⟩
def upN (th tn : Nat → Nat) (own : Nat → List Nat) (c : Ck) (t : Nat) : Nat → Ck
  | 0 => c
  | k + 1 => up1 th tn own (upN th tn own c t k) t
def blk1 (th tn : Nat → Nat) (own : Nat → List Nat) (c : Ck) (p : Nat) (last : Option Nat) : Ck :=
  let c1 := if 0 < tn p then jn th tn c.sn p ((own (th p)).getD (tn p - 1) 0) else c.sn
  let c2 := match last with | none => c1 | some q => jn th tn c1 p q
  ⟨c2, fun x => if x = th p then tn p + 1 else c.dn x⟩
structure CkI (N : Nat) (th tn : Nat → Nat) (own : Nat → List Nat) (sg : List Nat) (c : Ck) (j : Nat) : Prop where
  done : ∀ p, p < N → tn p < c.dn (th p) → ∀ q, q < N → (tn q < c.sn p (th q) ↔ Cl (StepR N th tn sg) q p)
  todo : ∀ p, p < N → ¬ tn p < c.dn (th p) → ∀ t, c.sn p t = 0
  blk : ∀ (i p : Nat), sg[i]? = some p → (tn p < c.dn (th p) ↔ i < j)
  le : ∀ t, c.dn t ≤ (own t).length
  down : ∀ p, p < N → tn p < c.dn (th p) → ∀ q, Cl (StepR N th tn sg) q p → tn q < c.dn (th q)
  acyc : ∀ p, p < N → tn p < c.dn (th p) → ¬ Cl (StepR N th tn sg) p p
theorem Cl.left_lt {p q : Nat} (h : Cl (StepR N th tn sg) p q) : p < N := by
  induction h with
  | one hr => exact hr.1.1
  | step _ _ ih => exact ih
theorem jn_ahead (h : Cal N th tn own sg) {c : Nat → Nat → Nat} {p r q : Nat} (hr : r < N) (hq : q < N) (hC : tn q < c r (th q) ↔ Cl (StepR N th tn sg) q r) :
    tn q < jn th tn c p r p (th q) ↔ tn q < c p (th q) ∨ q = r ∨ Cl (StepR N th tn sg) q r := by
  unfold jn
  rw [if_pos rfl]
  by_cases e : th q = th r
  · rw [if_pos e]
    constructor
    · intro hlt
      by_cases h1 : tn q < c p (th q)
      · exact .inl h1
      · by_cases h2 : tn q < c r (th q)
        · exact .inr (.inr (hC.1 h2))
        · have h3 : tn q ≤ tn r := by omega
          right
          by_cases h4 : tn q = tn r
          · left
            have a := h.own_at q hq
            have b := h.own_at r hr
            rw [e, h4, b] at a
            exact (Option.some.inj a).symm
          · exact .inr (.one ⟨⟨hq, hr⟩, .inl ⟨e, by omega⟩⟩)
    · rintro (h1 | rfl | h1)
      · omega
      · omega
      · have := hC.2 h1
        omega
  · rw [if_neg e]
    constructor
    · intro hlt
      by_cases h1 : tn q < c p (th q)
      · exact .inl h1
      · exact .inr (.inr (hC.1 (by omega)))
    · rintro (h1 | rfl | h1)
      · omega
      · exact absurd rfl e
      · have := hC.2 h1
        omega
theorem jn_other {c : Nat → Nat → Nat} {p r i t : Nat} (h : i ≠ p) : jn th tn c p r i t = c i t := if_neg h
theorem Cal.same (h : Cal N th tn own sg) {p q : Nat} (hp : p < N) (hq : q < N) (h1 : th p = th q) (h2 : tn p = tn q) : p = q := by
  have a := h.own_at p hp
  rw [h1, h2, h.own_at q hq] at a
  exact (Option.some.inj a).symm
theorem CkI.start (_h : Cal N th tn own sg) : CkI N th tn own sg ⟨fun _ _ => 0, fun _ => 0⟩ 0 :=
  ⟨fun p _ h1 => by simp at h1, fun _ _ _ _ => rfl, fun i p _ => by simp, fun _ => Nat.zero_le _, fun p _ h1 => by simp at h1, fun p _ h1 => by simp at h1⟩
theorem CkI.put (h : Cal N th tn own sg) {c : Ck} {j j' : Nat} (hI : CkI N th tn own sg c j) {p : Nat} (hp : p < N) (hd : c.dn (th p) = tn p) (sn' : Nat → Nat → Nat) (hsn : ∀ i, i ≠ p → ∀ t, sn' i t = c.sn i t)
    (hC : ∀ q, q < N → (tn q < sn' p (th q) ↔ Cl (StepR N th tn sg) q p)) (hpre : ∀ q, Cl (StepR N th tn sg) q p → tn q < c.dn (th q)) (hblk : ∀ (i q : Nat), sg[i]? = some q → ((tn q < c.dn (th q) ∨ q = p) ↔ i < j')) :
    CkI N th tn own sg ⟨sn', fun x => if x = th p then tn p + 1 else c.dn x⟩ j' := by
  have hnew : ∀ q, q < N → (tn q < (if th q = th p then tn p + 1 else c.dn (th q)) ↔ tn q < c.dn (th q) ∨ q = p) := by
    intro q hq
    by_cases e : th q = th p
    · rw [if_pos e, e, hd]
      constructor
      · intro h1
        by_cases h2 : tn q = tn p
        · exact .inr (h.same hq hp e h2)
        · exact .inl (by omega)
      · rintro (h1 | rfl)
        · omega
        · omega
    · rw [if_neg e]
      constructor
      · exact .inl
      · rintro (h1 | rfl)
        · exact h1
        · exact absurd rfl e
  refine ⟨fun a ha h1 q hq => ?_, fun a ha h1 t => ?_, fun i q hi => ?_, fun t => ?_, fun a ha h1 q hc => ?_, fun a ha h1 hc => ?_⟩
  · rcases (hnew a ha).1 h1 with h2 | rfl
    · by_cases e : a = p
      · subst e
        omega
      · dsimp only
        rw [hsn a e]
        exact hI.done a ha h2 q hq
    · exact hC q hq
  · have h2 : ¬ (tn a < c.dn (th a) ∨ a = p) := fun h3 => h1 ((hnew a ha).2 h3)
    dsimp only
    rw [hsn a (fun e => h2 (.inr e))]
    exact hI.todo a ha (fun h3 => h2 (.inl h3)) t
  · dsimp only
    rw [hnew q (h.sg_lt _ _ hi)]
    exact hblk i q hi
  · dsimp only
    split
    · rename_i e
      subst e
      exact (List.getElem?_eq_some_iff.1 (h.own_at p hp)).1
    · exact hI.le t
  · have hq := hc.left_lt
    apply (hnew q hq).2
    rcases (hnew a ha).1 h1 with h2 | rfl
    · exact .inl (hI.down a ha h2 q hc)
    · exact .inl (hpre q hc)
  · rcases (hnew a ha).1 h1 with h2 | rfl
    · exact hI.acyc a ha h2 hc
    · have := hpre a hc
      omega
theorem CkI.up (h : Cal N th tn own sg) {c : Ck} {j : Nat} (hI : CkI N th tn own sg c j) {t p : Nat} (hp : (own t)[c.dn t]? = some p) (hb : ∀ i : Nat, sg[i]? ≠ some p) : CkI N th tn own sg (up1 th tn own c t) j := by
  obtain ⟨hpN, rfl, htn⟩ := h.own_of _ _ _ hp
  have hg : (own (th p)).getD (c.dn (th p)) 0 = p := by simp [List.getD, hp]
  have hpre0 := h.pred_plain hpN hb
  have h0 := hI.todo p hpN (by omega)
  unfold up1
  rw [hg]
  rw [← htn]
  by_cases hz : 0 < tn p
  · rw [if_pos hz]
    have hlen : tn p < (own (th p)).length := by rw [htn]; exact (List.getElem?_eq_some_iff.1 hp).1
    obtain ⟨r, hr⟩ : ∃ r, (own (th p))[tn p - 1]? = some r := ⟨_, List.getElem?_eq_getElem (by omega)⟩
    have hgr : (own (th p)).getD (tn p - 1) 0 = r := by simp [List.getD, hr]
    obtain ⟨hrN, hrt, hrn⟩ := h.own_of _ _ _ hr
    have hrd : tn r < c.dn (th r) := by rw [hrt]; omega
    rw [hgr]
    have hcl : ∀ q, Cl (StepR N th tn sg) q p ↔ q = r ∨ Cl (StepR N th tn sg) q r := by
      intro q
      rw [hpre0 q]
      constructor
      · rintro ⟨s, h1, _, h3⟩
        rw [hr] at h1
        injection h1 with h1
        subst h1
        exact h3
      · exact fun h3 => ⟨r, hr, hz, h3⟩
    refine hI.put h hpN htn.symm _ (fun i hi t => jn_other hi) (fun q hq => ?_) (fun q hq => ?_) (fun i q hi => ?_)
    · rw [jn_ahead h hrN hq (hI.done r hrN hrd q hq), hcl q, h0]
      simp
    · rcases (hcl q).1 hq with rfl | h1
      · exact hrd
      · exact hI.down r hrN hrd q h1
    · rw [← hI.blk i q hi]
      constructor
      · rintro (h1 | rfl)
        · exact h1
        · exact absurd hi (hb i)
      · exact .inl
  · rw [if_neg hz]
    have hcl : ∀ q, ¬ Cl (StepR N th tn sg) q p := by
      intro q hq
      obtain ⟨_, _, h2, _⟩ := (hpre0 q).1 hq
      omega
    refine hI.put h hpN htn.symm _ (fun i hi t => rfl) (fun q hq => ?_) (fun q hq => absurd hq (hcl q)) (fun i q hi => ?_)
    · rw [h0]
      constructor
      · intro h1; omega
      · intro h1; exact absurd h1 (hcl q)
    · rw [← hI.blk i q hi]
      constructor
      · rintro (h1 | rfl)
        · exact h1
        · exact absurd hi (hb i)
      · exact .inl
theorem CkI.block (h : Cal N th tn own sg) {c : Ck} {j : Nat} (hI : CkI N th tn own sg c j) {p : Nat} (hp : sg[j]? = some p) (hd : c.dn (th p) = tn p) (last : Option Nat) (hlast : last = if 0 < j then sg[j - 1]? else none) :
    CkI N th tn own sg (blk1 th tn own c p last) (j + 1) := by
  have hpN := h.sg_lt _ _ hp
  have hpre0 := h.pred_block hp
  have h0 := hI.todo p hpN (by omega)
  have hjl : j < sg.length := (List.getElem?_eq_some_iff.1 hp).1
  -- the first join
  have h1 : ∃ c1, (if 0 < tn p then jn th tn c.sn p ((own (th p)).getD (tn p - 1) 0) else c.sn) = c1 ∧ (∀ i, i ≠ p → ∀ t, c1 i t = c.sn i t) ∧ (∀ q, q < N → (tn q < c1 p (th q) ↔ ∃ r, (own (th p))[tn p - 1]? = some r ∧ 0 < tn p ∧ (q = r ∨ Cl (StepR N th tn sg) q r))) ∧
      ∀ q r, (own (th p))[tn p - 1]? = some r → 0 < tn p → (q = r ∨ Cl (StepR N th tn sg) q r) → tn q < c.dn (th q) := by
    by_cases hz : 0 < tn p
    · have hlen : tn p < (own (th p)).length := (List.getElem?_eq_some_iff.1 (h.own_at p hpN)).1
      obtain ⟨r, hr⟩ : ∃ r, (own (th p))[tn p - 1]? = some r := ⟨_, List.getElem?_eq_getElem (by omega)⟩
      have hgr : (own (th p)).getD (tn p - 1) 0 = r := by simp [List.getD, hr]
      obtain ⟨hrN, hrt, hrn⟩ := h.own_of _ _ _ hr
      have hrd : tn r < c.dn (th r) := by rw [hrt]; omega
      refine ⟨_, rfl, ?_, ?_, ?_⟩
      · intro i hi t
        rw [if_pos hz]
        exact jn_other hi
      · intro q hq
        rw [if_pos hz, hgr, jn_ahead h hrN hq (hI.done r hrN hrd q hq), h0]
        simp only [Nat.not_lt_zero, false_or]
        constructor
        · exact fun h3 => ⟨r, hr, hz, h3⟩
        · rintro ⟨s, h1, _, h3⟩
          rw [hr] at h1
          injection h1 with h1
          subst h1
          exact h3
      · intro q s h1 _ h3
        rw [hr] at h1
        injection h1 with h1
        subst h1
        rcases h3 with rfl | h3
        · exact hrd
        · exact hI.down _ hrN hrd q h3
    · refine ⟨_, rfl, ?_, ?_, ?_⟩
      · intro i _ t
        rw [if_neg hz]
      · intro q _
        rw [if_neg hz, h0]
        constructor
        · intro h3; omega
        · rintro ⟨_, _, h3, _⟩; omega
      · intro q r _ h3
        omega
  obtain ⟨c1, e1, ho1, hc1, hd1⟩ := h1
  unfold blk1
  rw [e1]
  have hblk : ∀ (i q : Nat), sg[i]? = some q → ((tn q < c.dn (th q) ∨ q = p) ↔ i < j + 1) := by
    intro i q hi
    rw [hI.blk i q hi]
    constructor
    · rintro (h3 | rfl)
      · omega
      · have := h.sg_nd _ _ _ hi hp
        omega
    · intro h3
      by_cases e : i = j
      · subst e
        rw [hp] at hi
        exact .inr (Option.some.inj hi).symm
      · exact .inl (by omega)
  by_cases hz : 0 < j
  · obtain ⟨r, hr⟩ : ∃ r, sg[j - 1]? = some r := ⟨_, List.getElem?_eq_getElem (by omega)⟩
    rw [if_pos hz, hr] at hlast
    subst hlast
    have hrN := h.sg_lt _ _ hr
    have hrd : tn r < c.dn (th r) := (hI.blk _ _ hr).2 (by omega)
    have hrp : r ≠ p := fun e => by subst e; omega
    refine hI.put h hpN hd _ (fun i hi t => (jn_other hi).trans (ho1 i hi t)) (fun q hq => ?_) (fun q hq => ?_) hblk
    · dsimp only
      rw [jn_ahead h hrN hq (by rw [ho1 r hrp]; exact hI.done r hrN hrd q hq), hc1 q hq, hpre0 q]
      constructor
      · rintro (h3 | h3)
        · exact .inl h3
        · exact .inr ⟨r, hr, hz, h3⟩
      · rintro (h3 | ⟨s, h4, _, h3⟩)
        · exact .inl h3
        · rw [hr] at h4
          injection h4 with h4
          subst h4
          exact .inr h3
    · rcases (hpre0 q).1 hq with ⟨s, h3, h4, h5⟩ | ⟨s, h3, h4, h5⟩
      · exact hd1 q s h3 h4 h5
      · rw [hr] at h3
        injection h3 with h3
        subst h3
        rcases h5 with rfl | h5
        · exact hrd
        · exact hI.down _ hrN hrd q h5
  · rw [if_neg hz] at hlast
    subst hlast
    refine hI.put h hpN hd _ (fun i hi t => ho1 i hi t) (fun q hq => ?_) (fun q hq => ?_) hblk
    · dsimp only
      rw [hc1 q hq, hpre0 q]
      constructor
      · exact .inl
      · rintro (h3 | ⟨_, _, h4, _⟩)
        · exact h3
        · omega
    · rcases (hpre0 q).1 hq with ⟨s, h3, h4, h5⟩ | ⟨s, h3, h4, h5⟩
      · exact hd1 q s h3 h4 h5
      · omega
theorem CkI.tells (h : Cal N th tn own sg) {c : Ck} {j : Nat} (hI : CkI N th tn own sg c j) (hall : ∀ t, (∃ p, p < N ∧ th p = t) → c.dn t = (own t).length) {p q : Nat} (hp : p < N) (hq : q < N) :
    (tn q < c.sn p (th q) ↔ Cl (StepR N th tn sg) q p) ∧ ¬ Cl (StepR N th tn sg) p p := by
  have hd : tn p < c.dn (th p) := by
    rw [hall _ ⟨p, hp, rfl⟩]
    exact (List.getElem?_eq_some_iff.1 (h.own_at p hp)).1
  exact ⟨hI.done p hp hd q hq, hI.acyc p hp hd⟩
end
end Go.Proofs.Ytjifpjfinffamaa
end
section
namespace Go.Proofs.Ytjifpjfinffamaa
open Go.RowKit
theorem info43 : (Try.prog.info? 43).map (fun i => (i.zero, i.size, i.bytes)) = some (some (.agg #[.int .i64 0, .int .i64 0, .int .i64 0, .int .i64 0, .int .u64 0, .bool false, .int .i64 0, .slice none 0 0, .slice none 0 0]), 9, 104) := by kernel_rfl
theorem info47 : (Try.prog.info? 47).map (fun i => (i.zero, i.size, i.bytes)) = some (some (.agg #[.int .u64 0, .int .u64 0, .bool false]), 3, 24) := by kernel_rfl
structure Bl where
  th : Int
  kind : Int
  first : Nat
  last : Nat
  num : Int
  wr : Bool
  err : Int
  rd : List (Int × Int)
  wt : List (Int × Int)
def bl0 : Bl := ⟨0, 0, 0, 0, 0, false, 0, [], []⟩
def blAt (L : List Bl) (j : Nat) : Bl := L.getD j bl0
def bcell (b : Bl) (r t : Value) (i : Nat) : Value :=
  if i = 0 then .int .i64 b.th else if i = 1 then .int .i64 b.kind else if i = 2 then .int .i64 (b.first : Int) else if i = 3 then .int .i64 (b.last : Int) else if i = 4 then .int .u64 b.num
  else if i = 5 then .bool b.wr else if i = 6 then .int .i64 b.err else if i = 7 then r else t
abbrev blV (b : Bl) (r t : Value) : Value := .agg #[.int .i64 b.th, .int .i64 b.kind, .int .i64 (b.first : Int), .int .i64 (b.last : Int), .int .u64 b.num, .bool b.wr, .int .i64 b.err, r, t]
def bF (L : List Bl) (hd : Nat → Value) (i : Nat) : Value := bcell (blAt L (i / 9)) (hd (2 * (i / 9))) (hd (2 * (i / 9) + 1)) (i % 9)
def bEnt (b : Bl) (i : Nat) : List (Int × Int) := if i = 0 then b.rd else b.wt
def ent (L : List Bl) (i : Nat) : List (Int × Int) := bEnt (blAt L (i / 2)) (i % 2)
def ncell (p : Int × Int) : List Value := [.int .u64 p.1, .int .u64 p.2, .bool false]
theorem ncell_get : ∀ (l : List (Int × Int)) (i : Nat) (h : i < l.length), (l.flatMap ncell)[i * 3]? = some (.int .u64 l[i].1) ∧ (l.flatMap ncell)[i * 3 + 1]? = some (.int .u64 l[i].2) ∧ (l.flatMap ncell)[i * 3 + 2]? = some (.bool false)
  | [], i, h => by simp at h
  | e :: r, 0, h => by simp [List.flatMap_cons, ncell]
  | e :: r, i + 1, h => by
    have hi : i < r.length := by simpa using h
    have := ncell_get r i hi
    have e1 : (i + 1) * 3 = i * 3 + 3 := by omega
    have l3 : (ncell e).length = 3 := rfl
    rw [List.flatMap_cons, e1]
    refine ⟨?_, ?_, ?_⟩ <;> rw [List.getElem?_append_right (by rw [l3]; omega), l3]
    · simpa using this.1
    · rw [show i * 3 + 3 + 1 - 3 = i * 3 + 1 from by omega]; simpa using this.2.1
    · rw [show i * 3 + 3 + 2 - 3 = i * 3 + 2 from by omega]; simpa using this.2.2
def OwnN (w : World) (base : Nat) (v : Value) (l : List (Int × Int)) : Prop := w.ownsRow base 47 3 v l.length (l.flatMap ncell)
theorem OwnN.nil (w : World) (base : Nat) : OwnN w base (.slice none 0 0) [] := World.ownsRow_nil w base 47 3
theorem OwnN.kept {w w' : World} {base : Nat} {v : Value} {l : List (Int × Int)} (h : OwnN w base v l) (hk : ∀ g, v.ownBlock = some g → w'.heap[g]? = w.heap[g]?) : OwnN w' base v l := by
  refine ⟨(show _ ∧ _ from h).1, ?_⟩
  rcases (show _ ∨ _ from h.2) with h2 | ⟨g, cap, cur, hv, hbg, hh, h3⟩
  · exact .inl h2
  · exact .inr ⟨g, cap, cur, hv, hbg, (hk g (by rw [hv]; rfl)).trans hh, h3⟩
theorem OwnN.lt {w : World} {base : Nat} {v : Value} {l : List (Int × Int)} (h : OwnN w base v l) : ∀ g, v.ownBlock = some g → base ≤ g ∧ g < w.heap.size := fun g hg => World.ownsRow.lt h g hg
theorem OwnN.below {w w' : World} {base B : Nat} {v : Value} {l : List (Int × Int)} (h : OwnN w base v l) (hl : w.heap.size ≤ B) (hb : Below B w w') : OwnN w' base v l := h.kept fun g hg => hb.block g (by have := (h.lt g hg).2; omega)
def RN (w : World) (lo B : Nat) (v : Value) (l : List (Int × Int)) : Prop :=
  ∃ A c, v = .slice A l.length c ∧ (0 < l.length → ∃ g, A = some ⟨g, 0, none⟩ ∧ lo ≤ g ∧ g < B ∧ ∀ i (h : i < l.length), w.cell? ⟨g, i * 3, none⟩ = some (.int .u64 l[i].1) ∧ w.cell? ⟨g, i * 3 + 1, none⟩ = some (.int .u64 l[i].2) ∧ w.cell? ⟨g, i * 3 + 2, none⟩ = some (.bool false))
theorem RN.keep {w w' : World} {lo B : Nat} {v : Value} {l : List (Int × Int)} (h : RN w lo B v l) (hk : ∀ p : Addr, lo ≤ p.block → p.block < B → w'.cell? p = w.cell? p) : RN w' lo B v l := by
  obtain ⟨A, c, hv, hc⟩ := h
  refine ⟨A, c, hv, fun hp => ?_⟩
  obtain ⟨g, hA, h1, h2, h3⟩ := hc hp
  refine ⟨g, hA, h1, h2, fun i hi => ?_⟩
  obtain ⟨a, b, d⟩ := h3 i hi
  exact ⟨(hk ⟨g, i * 3, none⟩ h1 h2).trans a, (hk ⟨g, i * 3 + 1, none⟩ h1 h2).trans b, (hk ⟨g, i * 3 + 2, none⟩ h1 h2).trans d⟩
theorem RN.more {w : World} {lo B lo' B' : Nat} {v : Value} {l : List (Int × Int)} (h : RN w lo B v l) (h1 : lo' ≤ lo) (h2 : B ≤ B') : RN w lo' B' v l := by
  obtain ⟨A, c, hv, hc⟩ := h
  refine ⟨A, c, hv, fun hp => ?_⟩
  obtain ⟨g, hA, h3, h4, h5⟩ := hc hp
  exact ⟨g, hA, by omega, by omega, h5⟩
theorem OwnN.reads {w : World} {base : Nat} {v : Value} {l : List (Int × Int)} (h : OwnN w base v l) : RN w base w.heap.size v l := by
  obtain ⟨A, c, rfl⟩ := own_shape h
  refine ⟨A, c, rfl, fun hn => ?_⟩
  obtain ⟨g, cap, hv, hbg, hlt⟩ := World.ownsRow.form h hn
  have hA : A = some ⟨g, 0, none⟩ := by injection hv
  subst hA
  refine ⟨g, rfl, hbg, hlt, fun i hi => ?_⟩
  have hg := ncell_get l i hi
  have hcell : ∀ j u, (l.flatMap ncell)[j]? = some u → w.cell? ⟨g, j, none⟩ = some u := by
    intro j u hu
    have := World.ownsRow.cells h (g := g) rfl j u hu
    rw [Addr.add_lit, Nat.zero_add] at this
    exact this
  exact ⟨hcell _ _ hg.1, hcell _ _ hg.2.1, hcell _ _ hg.2.2⟩
structure RB (w : World) (lo B : Nat) (A : Option Addr) (n : Nat) (L : List Bl) (hd : Nat → Value) : Prop where
  len : L.length = n
  row : 0 < n → ∃ g, A = some ⟨g, 0, none⟩ ∧ lo ≤ g ∧ g < B ∧ ∀ i, i < n * 9 → w.cell? ⟨g, i, none⟩ = some (bF L hd i)
  ent : ∀ i, i < 2 * n → RN w lo B (hd i) (ent L i)
theorem RB.keep {w w' : World} {lo B : Nat} {A : Option Addr} {n : Nat} {L : List Bl} {hd : Nat → Value} (h : RB w lo B A n L hd) (hk : ∀ p : Addr, lo ≤ p.block → p.block < B → w'.cell? p = w.cell? p) : RB w' lo B A n L hd := by
  refine ⟨h.len, fun hp => ?_, fun i hi => (h.ent i hi).keep hk⟩
  obtain ⟨g, hA, h1, h2, h3⟩ := h.row hp
  exact ⟨g, hA, h1, h2, fun i hi => (hk ⟨g, i, none⟩ h1 h2).trans (h3 i hi)⟩
theorem RB.below {w w' : World} {lo B : Nat} {A : Option Addr} {n : Nat} {L : List Bl} {hd : Nat → Value} (h : RB w lo B A n L hd) (hb : Below B w w') : RB w' lo B A n L hd := h.keep fun _ _ hp => hb.cell hp
theorem RB.more {w : World} {lo B lo' B' : Nat} {A : Option Addr} {n : Nat} {L : List Bl} {hd : Nat → Value} (h : RB w lo B A n L hd) (h1 : lo' ≤ lo) (h2 : B ≤ B') : RB w lo' B' A n L hd := by
  refine ⟨h.len, fun hp => ?_, fun i hi => (h.ent i hi).more h1 h2⟩
  obtain ⟨g, hA, h3, h4, h5⟩ := h.row hp
  exact ⟨g, hA, by omega, by omega, h5⟩
theorem bF_at (L : List Bl) (hd : Nat → Value) (j t : Nat) (ht : t < 9) : bF L hd (j * 9 + t) = bcell (blAt L j) (hd (2 * j)) (hd (2 * j + 1)) t := by
  unfold bF
  rw [show (j * 9 + t) / 9 = j by omega, show (j * 9 + t) % 9 = t by omega]
theorem ent_rd (L : List Bl) (j : Nat) : ent L (2 * j) = (blAt L j).rd := by
  unfold ent
  rw [show 2 * j / 2 = j by omega, show 2 * j % 2 = 0 by omega]
  rfl
theorem ent_wt (L : List Bl) (j : Nat) : ent L (2 * j + 1) = (blAt L j).wt := by
  unfold ent
  rw [show (2 * j + 1) / 2 = j by omega, show (2 * j + 1) % 2 = 1 by omega]
  rfl
structure BlC (w : World) (g j : Nat) (b : Bl) (r t : Value) : Prop where
  c0 : w.cell? ⟨g, j * 9, none⟩ = some (.int .i64 b.th)
  c1 : w.cell? ⟨g, j * 9 + 1, none⟩ = some (.int .i64 b.kind)
  c2 : w.cell? ⟨g, j * 9 + 2, none⟩ = some (.int .i64 (b.first : Int))
  c3 : w.cell? ⟨g, j * 9 + 3, none⟩ = some (.int .i64 (b.last : Int))
  c4 : w.cell? ⟨g, j * 9 + 4, none⟩ = some (.int .u64 b.num)
  c5 : w.cell? ⟨g, j * 9 + 5, none⟩ = some (.bool b.wr)
  c6 : w.cell? ⟨g, j * 9 + 6, none⟩ = some (.int .i64 b.err)
  c7 : w.cell? ⟨g, j * 9 + 7, none⟩ = some r
  c8 : w.cell? ⟨g, j * 9 + 8, none⟩ = some t
theorem RB.at_ {w w' : World} {lo B : Nat} {A : Option Addr} {n : Nat} {L : List Bl} {hd : Nat → Value} (h : RB w lo B A n L hd) (hb : Below B w w') {j : Nat} (hj : j < n) :
    ∃ g, A = some ⟨g, 0, none⟩ ∧ g < B ∧ BlC w' g j (blAt L j) (hd (2 * j)) (hd (2 * j + 1)) ∧ RN w' lo B (hd (2 * j)) (blAt L j).rd ∧ RN w' lo B (hd (2 * j + 1)) (blAt L j).wt := by
  have h' := h.below hb
  obtain ⟨g, hA, h1, h2, h3⟩ := h'.row (by omega)
  have hc : ∀ t, t < 9 → w'.cell? ⟨g, j * 9 + t, none⟩ = some (bcell (blAt L j) (hd (2 * j)) (hd (2 * j + 1)) t) := fun t ht => by
    rw [h3 (j * 9 + t) (by omega), bF_at L hd j t ht]
  refine ⟨g, hA, h2, ⟨hc 0 (by omega), hc 1 (by omega), hc 2 (by omega), hc 3 (by omega), hc 4 (by omega), hc 5 (by omega), hc 6 (by omega), hc 7 (by omega), hc 8 (by omega)⟩, ?_, ?_⟩
  · have := h'.ent (2 * j) (by omega)
    rwa [ent_rd] at this
  · have := h'.ent (2 * j + 1) (by omega)
    rwa [ent_wt] at this
def Ap (u v : Value) : Prop := ∀ g, u.ownBlock = some g → v.ownBlock ≠ some g
theorem Ap.symm {u v : Value} (h : Ap u v) : Ap v u := fun g h1 h2 => h g h2 h1
structure HB (w : World) (base : Nat) (A : Option Addr) (n c : Nat) (L : List Bl) (hd : Nat → Value) : Prop where
  len : L.length = n
  row : w.ownsRow base 43 9 (.slice A n c) n ((List.range (n * 9)).map (bF L hd))
  own : ∀ i, i < 2 * n → OwnN w base (hd i) (ent L i)
  apart : ∀ i k, i < 2 * n → k < 2 * n → i ≠ k → Ap (hd i) (hd k)
section
variable {w w2 : World} {base : Nat} {A : Option Addr} {n c : Nat} {L : List Bl} {hd : Nat → Value}
theorem HB.nil (w : World) (base : Nat) (hd : Nat → Value) : HB w base none 0 0 [] hd := ⟨rfl, World.ownsRow_nil w base 43 9, fun i hi => by omega, fun i k hi => by omega⟩
theorem HB.base' {base' : Nat} (h : HB w base A n c L hd) (hb : base' ≤ base) : HB w base' A n c L hd := ⟨h.len, own_base h.row hb, fun i hi => own_base (h.own i hi) hb, h.apart⟩
theorem row_ap {xs : List Value} {v : Value} {l : List (Int × Int)} (h : w.ownsRow base 43 9 (.slice A n c) n xs) (ho : OwnN w base v l) : Ap v (.slice A n c) := by
  intro g h1
  rcases h.2 with ⟨hn, _⟩ | ⟨g', cap, cur, hv, _, hh, _⟩
  · rw [hn]
    exact fun e => by cases e
  · rw [hv]
    intro e
    injection e with e
    subst e
    exact own_ne_blk ho hh (by decide) h1
theorem HB.ne (h : HB w base A n c L hd) {i : Nat} (hi : i < 2 * n) : Ap (hd i) (.slice A n c) := row_ap h.row (h.own i hi)
theorem HB.keep (h : HB w base A n c L hd) (h0 : ∀ g, (Value.slice A n c).ownBlock = some g → w2.heap[g]? = w.heap[g]?) (h1 : ∀ i, i < 2 * n → ∀ g, (hd i).ownBlock = some g → w2.heap[g]? = w.heap[g]?) : HB w2 base A n c L hd := by
  refine ⟨h.len, ⟨h.row.1, ?_⟩, fun i hi => (h.own i hi).kept (h1 i hi), h.apart⟩
  rcases h.row.2 with h2 | ⟨g', cap', cur, hv, hbg, hh, h3⟩
  · exact .inl h2
  · exact .inr ⟨g', cap', cur, hv, hbg, (h0 g' (by rw [hv]; rfl)).trans hh, h3⟩
theorem HB.below {B : Nat} (h : HB w base A n c L hd) (hl : w.heap.size ≤ B) (hb : Below B w w2) : HB w2 base A n c L hd :=
  h.keep (fun g hg => hb.block g (by have := (h.row.lt g hg).2; omega)) (fun i hi g hg => hb.block g (by have := ((h.own i hi).lt g hg).2; omega))
theorem HB.reads (h : HB w base A n c L hd) : RB w base w.heap.size A n L hd := by
  refine ⟨h.len, fun hn => ?_, fun i hi => (h.own i hi).reads⟩
  obtain ⟨g, cap, hv, hbg, hlt⟩ := h.row.form hn
  have hA : A = some ⟨g, 0, none⟩ := by injection hv
  subst hA
  refine ⟨g, rfl, hbg, hlt, fun i hi => ?_⟩
  rw [h.row.cellAt i (by omega)]
  simp [hi]
theorem HB.frozen {g : Nat} (h : HB w base (some ⟨g, 0, none⟩) n c L hd) (j : Nat) : w.frozen? ⟨g, j, none⟩ = false := h.row.frozenAt j
theorem HB.set {g : Nat} (h : HB w base (some ⟨g, 0, none⟩) n c L hd) (j t : Nat) (v : Value) (b' : Bl) (hj : j < n) (ht : t < 7) (hb : ∀ i, i < 9 → (if i = t then v else bcell (blAt L j) (hd (2 * j)) (hd (2 * j + 1)) i) = bcell b' (hd (2 * j)) (hd (2 * j + 1)) i)
    (h1 : b'.rd = (blAt L j).rd) (h2 : b'.wt = (blAt L j).wt) : HB (w.setCell ⟨g, j * 9 + t, none⟩ v) base (some ⟨g, 0, none⟩) n c (L.set j b') hd := by
  have hst := (World.ownsRow.stored h.row (j * 9 + t) v)
  have hL := h.len
  have hat : ∀ i, blAt (L.set j b') i = if i = j then b' else blAt L i := fun i => by
    unfold blAt
    by_cases e : i = j
    · subst e
      simp [List.getD, show i < L.length by omega]
    · rw [if_neg e]
      simp only [List.getD]
      rw [List.getElem?_set_ne (fun e' => e e'.symm)]
  refine ⟨by rw [List.length_set]; exact hL, ?_, fun i hi => ?_, h.apart⟩
  · have e : (List.range (n * 9)).map (bF (L.set j b') hd) = ((List.range (n * 9)).map (bF L hd)).set (j * 9 + t) v := by
      apply List.ext_getElem?
      intro i
      by_cases hi : i < n * 9
      · by_cases e : i = j * 9 + t
        · subst e
          have := hb t (by omega)
          rw [if_pos rfl] at this
          simp [hi, bF_at _ _ j t (show t < 9 by omega), hat, ← this]
        · rw [List.getElem?_set_ne (fun e' => e e'.symm)]
          simp [hi]
          by_cases e2 : i / 9 = j
          · obtain ⟨s, hs, rfl⟩ : ∃ s, s < 9 ∧ i = j * 9 + s := ⟨i % 9, by omega, by omega⟩
            have := hb s hs
            rw [if_neg (by omega)] at this
            rw [bF_at _ _ j s hs, bF_at _ _ j s hs, hat, if_pos rfl, this]
          · unfold bF
            rw [hat, if_neg e2]
      · rw [List.getElem?_eq_none (by simp; omega), List.getElem?_eq_none (by simp; omega)]
    rw [e]
    exact hst.1
  · have he : ent (L.set j b') i = ent L i := by
      unfold ent
      rw [hat]
      by_cases e : i / 2 = j
      · rw [if_pos e, e]
        unfold bEnt
        rw [h1, h2]
      · rw [if_neg e]
    rw [he]
    refine (h.own i hi).kept fun g' hg' => ?_
    refine Below.heap_setCell w ⟨g, j * 9 + t, none⟩ v g' fun e => ?_
    exact h.ne hi g' hg' (congrArg some e.symm)
theorem HB.push (h : HB w base A n c L hd) (b : Bl) (r t : Value) {g cap : Nat} (hr : OwnN w base r b.rd) (ht : OwnN w base t b.wt) (hrt : Ap r t) (har : ∀ i, i < 2 * n → Ap (hd i) r) (hat : ∀ i, i < 2 * n → Ap (hd i) t)
    (hg : w.grownBy w2 (Value.slice A n c).ownBlock) (ho : w2.ownsRow base 43 9 (.slice (some ⟨g, 0, none⟩) (n + 1) cap) (n + 1) ((List.range (n * 9)).map (bF L hd) ++ (List.range 9).map (bcell b r t))) :
    HB w2 base (some ⟨g, 0, none⟩) (n + 1) cap (L ++ [b]) (fun i => if i = 2 * n then r else if i = 2 * n + 1 then t else hd i) := by
  have hL := h.len
  have hbl : ∀ i, i < n + 1 → blAt (L ++ [b]) i = if i = n then b else blAt L i := fun i hi => by
    unfold blAt
    by_cases e : i = n
    · subst e
      simp [List.getD, ← hL]
    · rw [if_neg e]
      simp only [List.getD]
      rw [List.getElem?_append_left (by omega)]
  have hkeep : ∀ v l, OwnN w base v l → OwnN w2 base v l := fun v l hv => hv.kept fun g' hg' => by
    refine hg.block g' (hv.lt g' hg').2 fun e => ?_
    exact row_ap h.row hv g' hg' e.symm
  refine ⟨by simp [hL], ?_, fun i hi => ?_, fun i k hi hk hik => ?_⟩
  · have e : (List.range ((n + 1) * 9)).map (bF (L ++ [b]) fun i => if i = 2 * n then r else if i = 2 * n + 1 then t else hd i) = (List.range (n * 9)).map (bF L hd) ++ (List.range 9).map (bcell b r t) := by
      rw [show (n + 1) * 9 = n * 9 + 9 by omega, List.range_add, List.map_append, List.map_map]
      congr 1
      · refine List.map_congr_left fun i hi => ?_
        have hi' := List.mem_range.1 hi
        unfold bF
        dsimp only
        rw [hbl _ (by omega), if_neg (by omega), if_neg (by omega), if_neg (by omega), if_neg (by omega), if_neg (by omega)]
      · refine List.map_congr_left fun i hi => ?_
        have hi' := List.mem_range.1 hi
        show bF _ _ (n * 9 + i) = _
        rw [bF_at _ _ n i hi', hbl _ (by omega), if_pos rfl, if_pos rfl, if_neg (by omega), if_pos rfl]
    rw [e]
    exact ho
  · by_cases e1 : i = 2 * n
    · subst e1
      rw [if_pos rfl, ent_rd, hbl _ (by omega), if_pos rfl]
      exact hkeep _ _ hr
    · by_cases e2 : i = 2 * n + 1
      · subst e2
        rw [if_neg (by omega), if_pos rfl, ent_wt, hbl _ (by omega), if_pos rfl]
        exact hkeep _ _ ht
      · rw [if_neg e1, if_neg e2]
        have : ent (L ++ [b]) i = ent L i := by
          unfold ent
          rw [hbl _ (by omega), if_neg (by omega)]
        rw [this]
        exact hkeep _ _ (h.own i (by omega))
  · by_cases e1 : i = 2 * n
    · by_cases f2 : k = 2 * n + 1
      · rw [if_pos e1, if_neg (by omega), if_pos f2]; exact hrt
      · rw [if_pos e1, if_neg (by omega), if_neg f2]; exact (har k (by omega)).symm
    · by_cases e2 : i = 2 * n + 1
      · by_cases f1 : k = 2 * n
        · rw [if_neg e1, if_pos e2, if_pos f1]; exact hrt.symm
        · rw [if_neg e1, if_pos e2, if_neg f1, if_neg (by omega)]; exact (hat k (by omega)).symm
      · by_cases f1 : k = 2 * n
        · rw [if_neg e1, if_neg e2, if_pos f1]; exact har i (by omega)
        · by_cases f2 : k = 2 * n + 1
          · rw [if_neg e1, if_neg e2, if_neg f1, if_pos f2]; exact hat i (by omega)
          · rw [if_neg e1, if_neg e2, if_neg f1, if_neg f2]; exact h.apart i k (by omega) (by omega) hik
theorem HB.list {g : Nat} (h : HB w base (some ⟨g, 0, none⟩) n c L hd) (j s : Nat) (hs : s < 2) (v : Value) (b' : Bl) (hj : j < n)
    (hown : OwnN w2 base v (bEnt b' s)) (hgr : ∀ g', g' < w.heap.size → (hd (2 * j + s)).ownBlock ≠ some g' → w2.heap[g']? = w.heap[g']?)
    (hat : v.ownBlock = (hd (2 * j + s)).ownBlock ∨ ∃ g', v.ownBlock = some g' ∧ w.heap.size ≤ g')
    (hb : ∀ i r t, i < 7 → bcell b' r t i = bcell (blAt L j) r t i) (he : bEnt b' (1 - s) = bEnt (blAt L j) (1 - s)) :
    HB (w2.setCell ⟨g, j * 9 + 7 + s, none⟩ v) base (some ⟨g, 0, none⟩) n c (L.set j b') (fun i => if i = 2 * j + s then v else hd i) := by
  have hL := h.len
  have hbl : ∀ i, blAt (L.set j b') i = if i = j then b' else blAt L i := fun i => by
    unfold blAt
    by_cases e : i = j
    · subst e
      simp [List.getD, show i < L.length by omega]
    · rw [if_neg e]
      simp only [List.getD]
      rw [List.getElem?_set_ne (fun e' => e e'.symm)]
  have hgw : g < w.heap.size := (h.row.lt g rfl).2
  have hq : 2 * j + s < 2 * n := by omega
  have hnq : (hd (2 * j + s)).ownBlock ≠ some g := fun e => h.ne hq g e rfl
  have hvg : v.ownBlock ≠ some g := by
    rcases hat with h1 | ⟨g', h1, h2⟩
    · rw [h1]; exact hnq
    · rw [h1]
      intro e
      injection e with e
      omega
  have hrow2 : w2.ownsRow base 43 9 (.slice (some ⟨g, 0, none⟩) n c) n ((List.range (n * 9)).map (bF L hd)) := by
    refine ⟨h.row.1, ?_⟩
    rcases h.row.2 with h2 | ⟨g', cap', cur, hv, hbg, hh, h3⟩
    · exact .inl h2
    · refine .inr ⟨g', cap', cur, hv, hbg, ?_, h3⟩
      injection hv with hv
      injection hv with hv
      injection hv with hv
      subst hv
      exact (hgr g hgw hnq).trans hh
  have hst := World.ownsRow.stored hrow2 (j * 9 + 7 + s) v
  have hapv : ∀ i, i < 2 * n → i ≠ 2 * j + s → Ap (hd i) v := fun i hi hne g' h1 h2 => by
    rcases hat with h3 | ⟨g'', h3, h4⟩
    · exact h.apart i (2 * j + s) hi hq hne g' h1 (by rw [← h3]; exact h2)
    · rw [h3] at h2
      injection h2 with h2
      have := ((h.own i hi).lt g' h1).2
      omega
  refine ⟨by rw [List.length_set]; exact hL, ?_, fun i hi => ?_, fun i k hi hk hik => ?_⟩
  · have e : (List.range (n * 9)).map (bF (L.set j b') fun i => if i = 2 * j + s then v else hd i) = ((List.range (n * 9)).map (bF L hd)).set (j * 9 + 7 + s) v := by
      apply List.ext_getElem?
      intro i
      by_cases hi : i < n * 9
      · by_cases e : i = j * 9 + 7 + s
        · subst e
          simp only [List.getElem?_map, List.getElem?_range hi, Option.map_some, List.getElem?_set_self (show j * 9 + 7 + s < ((List.range (n * 9)).map (bF L hd)).length by simp; omega)]
          rw [show j * 9 + 7 + s = j * 9 + (7 + s) by omega, bF_at _ _ j (7 + s) (by omega)]
          have : s = 0 ∨ s = 1 := by omega
          rcases this with rfl | rfl <;> simp [bcell]
        · rw [List.getElem?_set_ne (fun e' => e e'.symm)]
          simp only [List.getElem?_map, List.getElem?_range hi, Option.map_some]
          congr 1
          by_cases e2 : i / 9 = j
          · obtain ⟨q, hq', rfl⟩ : ∃ q, q < 9 ∧ i = j * 9 + q := ⟨i % 9, by omega, by omega⟩
            rw [bF_at _ _ j q hq', bF_at _ _ j q hq', hbl, if_pos rfl]
            by_cases h7 : q < 7
            · rw [hb q _ _ h7]
              simp only [bcell]
              have : ¬ q = 7 := by omega
              have : q = 0 ∨ q = 1 ∨ q = 2 ∨ q = 3 ∨ q = 4 ∨ q = 5 ∨ q = 6 := by omega
              rcases this with rfl | rfl | rfl | rfl | rfl | rfl | rfl <;> simp
            · have h78 : q = 7 ∨ q = 8 := by omega
              have : s = 0 ∨ s = 1 := by omega
              rcases h78 with rfl | rfl <;> rcases this with rfl | rfl <;> first | omega | (simp [bcell])
          · unfold bF
            dsimp only
            rw [hbl, if_neg e2, if_neg (by omega), if_neg (by omega)]
      · rw [List.getElem?_eq_none (by simp; omega), List.getElem?_eq_none (by simp; omega)]
    rw [e]
    exact hst.1
  · by_cases e : i = 2 * j + s
    · subst e
      rw [if_pos rfl]
      have e2 : ent (L.set j b') (2 * j + s) = bEnt b' s := by
        unfold ent
        rw [show (2 * j + s) / 2 = j by omega, show (2 * j + s) % 2 = s by omega, hbl, if_pos rfl]
      rw [e2]
      exact hown.kept fun g' hg' => Below.heap_setCell w2 ⟨g, j * 9 + 7 + s, none⟩ v g' fun e' => hvg (by rw [hg']; exact congrArg some e')
    · rw [if_neg e]
      have e2 : ent (L.set j b') i = ent L i := by
        unfold ent
        rw [hbl]
        by_cases e3 : i / 2 = j
        · rw [if_pos e3, e3]
          have : i % 2 = 1 - s := by omega
          rw [this]
          exact he
        · rw [if_neg e3]
      rw [e2]
      refine (h.own i hi).kept fun g' hg' => ?_
      rw [Below.heap_setCell w2 ⟨g, j * 9 + 7 + s, none⟩ v g' fun e' => h.ne hi g' hg' (congrArg some e'.symm)]
      exact hgr g' ((h.own i hi).lt g' hg').2 fun e' => h.apart i (2 * j + s) hi hq e g' hg' e'
  · by_cases e : i = 2 * j + s
    · rw [if_pos e, if_neg (by omega)]
      exact (hapv k hk (by omega)).symm
    · by_cases f : k = 2 * j + s
      · rw [if_neg e, if_pos f]; exact hapv i hi e
      · rw [if_neg e, if_neg f]; exact h.apart i k hi hk hik
end
end Go.Proofs.Ytjifpjfinffamaa
end
section
namespace Go.Proofs.Ytjifpjfinffamaa
open Go.RowKit
def stB (b : Bl) (e : Ev) : Bl :=
  if e.kind = 4 then { b with num := e.word / 2 } else if e.kind = 5 then { b with wr := true } else if e.kind = 2 then (if e.own = true then b else { b with rd := b.rd ++ [(e.addr, e.word)] })
  else if e.kind = 3 then { b with wt := b.wt ++ [(e.addr, e.word)] } else b
def Fr (w w' : World) (g n : Nat) (hd : Nat → Value) : Prop := ∀ k, k < w.heap.size → k ≠ g → (∀ i, i < 2 * n → (hd i).ownBlock ≠ some k) → w'.heap[k]? = w.heap[k]?
def InEnds (base g n c : Nat) (L : List Bl) (hd : Nat → Value) (j : Nat) (e : Ev) (w : World) : Prop :=
  Calls Try.prog 91 #[.pointer (some ⟨g, j * 9, none⟩), evV e] w fun e' w' => e' = .returned (.tuple #[]) ∧ Below base w w' ∧ Fr w w' g n hd ∧ ∃ hd', HB w' base (some ⟨g, 0, none⟩) n c (L.set j (stB (blAt L j) e)) hd'
theorem Fr.refl (w : World) (g n : Nat) (hd : Nat → Value) : Fr w w g n hd := fun _ _ _ _ => rfl
theorem blAt_set {L : List Bl} {j : Nat} (hj : j < L.length) (b : Bl) (i : Nat) : blAt (L.set j b) i = if i = j then b else blAt L i := by
  unfold blAt
  by_cases e : i = j
  · subst e
    simp [List.getD, hj]
  · rw [if_neg e]
    simp only [List.getD]
    rw [List.getElem?_set_ne (fun e' => e e'.symm)]
theorem set_blAt {L : List Bl} {j : Nat} (hj : j < L.length) : L.set j (blAt L j) = L := by
  apply List.ext_getElem?
  intro i
  by_cases e : i = j
  · subst e
    simp [blAt, List.getD, hj]
  · rw [List.getElem?_set_ne (fun e' => e e'.symm)]
section
variable {base g n c : Nat} {L : List Bl} {hd : Nat → Value} {j : Nat} {w : World}
theorem in_none (e : Ev) (hI : HB w base (some ⟨g, 0, none⟩) n c L hd) (hj : j < n) (hbase : base ≤ w.heap.size) (h4 : e.kind ≠ 4) (h5 : e.kind ≠ 5) (h2 : ¬ (e.kind = 2 ∧ e.own = false)) (h3 : e.kind ≠ 3) : InEnds base g n c L hd j e w := by
  unfold InEnds
  have hset : L.set j (stB (blAt L j) e) = L := by
    unfold stB
    rw [if_neg h4, if_neg h5, if_neg h3]
    by_cases q : e.kind = 2
    · have : e.own = true := by
        cases ho : e.own with
        | true => rfl
        | false => exact absurd ⟨q, ho⟩ h2
      rw [if_pos q, if_pos this]
      exact set_blAt (by rw [hI.len]; exact hj)
    · rw [if_neg q]
      exact set_blAt (by rw [hI.len]; exact hj)
  rw [hset]
  have HI := Lib.hid hI
  clear hset hI
  obtain ⟨th, k, a, x, o, er⟩ := e
  simp only at h4 h5 h2 h3
  have k4 : (k == 4) = false := by simpa using h4
  have k5 : (k == 5) = false := by simpa using h5
  have k3 : (k == 3) = false := by simpa using h3
  have hor : (k == 2) = false ∨ k = 2 ∧ o = true := by
    by_cases q : k = 2
    · cases o with
      | true => exact .inr ⟨q, rfl⟩
      | false => exact absurd ⟨q, rfl⟩ h2
    · exact .inl (by simpa using q)
  clear h4 h5 h2 h3
  rcases hor with k2 | ⟨rfl, rfl⟩
  all_goals
    go_enter Try.func91, Try.ntmps91
    go_wp2
    go_end0
    refine ⟨rfl, ?_, ?_, hd, ?_⟩
    · go_grown
    · exact fun k hk _ _ => Below.heap_alloc w _ k hk
    · exact HI.out.below (Nat.le_refl _) (by go_grown)
theorem in_moved (e : Ev) (he : e.Wd) (hI : HB w base (some ⟨g, 0, none⟩) n c L hd) (hj : j < n) (hbase : base ≤ w.heap.size) (h4 : e.kind = 4) : InEnds base g n c L hd j e w := by
  unfold InEnds
  have hset : stB (blAt L j) e = { blAt L j with num := e.word / 2 } := by unfold stB; simp [h4]
  rw [hset]
  clear hset
  obtain ⟨th, k, a, x, o, er⟩ := e
  simp only at h4
  subst h4
  have hx := he.2
  simp only at hx
  have hdiv : x.tdiv 2 = x / 2 := Int.tdiv_eq_ediv_of_nonneg hx.1
  have hw : IntKind.u64.wrap (x / 2) = x / 2 := by
    simp only [IntKind.wrap, IntKind.signed, IntKind.bits]
    simp
    omega
  have hg := hI.row.lt g rfl
  obtain ⟨g', hA, _, hc, _, _⟩ := hI.reads.at_ (Below.refl _ _) hj
  injection hA with hA
  injection hA with hA
  subst hA
  have hc4 := hc.c4
  have hfr := hI.frozen (j * 9 + 4)
  have hg2 : g < w.heap.size := hg.2
  have hst : HB (w.setCell ⟨g, j * 9 + 4, none⟩ (.int .u64 (x / 2))) base (some ⟨g, 0, none⟩) n c (L.set j { blAt L j with num := x / 2 }) hd := by
    refine hI.set j 4 _ _ hj (by decide) ?_ rfl rfl
    intro i hi
    have : i = 0 ∨ i = 1 ∨ i = 2 ∨ i = 3 ∨ i = 4 ∨ i = 5 ∨ i = 6 ∨ i = 7 ∨ i = 8 := by omega
    rcases this with rfl | rfl | rfl | rfl | rfl | rfl | rfl | rfl | rfl <;> simp [bcell]
  have HST := Lib.hid hst
  have hfx : (w.alloc (.cells #[.int .i64 th, .int .i64 4, .int .u64 a, .int .u64 x, .bool o, .int .i64 er] 97)).frozen? ⟨g, j * 9 + 4, none⟩ = false := frozen_alloc _ hg2 hfr
  generalize { blAt L j with num := x / 2 } = bb at *
  generalize blAt L j = b at *
  clear hst hI hc
  go_enter Try.func91, Try.ntmps91
  go_wp2
  go_end0
  refine ⟨rfl, ?_, ?_, hd, ?_⟩
  · have hbg := hg.1
    go_grown
  · intro k hk h1 _
    exact (Below.heap_alloc _ _ k (by simpa using hk)).trans (Below.heap_setCell _ ⟨g, j * 9 + 4, none⟩ _ k h1)
  · exact HST.out.below (Nat.le_refl _) (by go_grown)
theorem in_locked (e : Ev) (he : e.Wd) (hI : HB w base (some ⟨g, 0, none⟩) n c L hd) (hj : j < n) (hbase : base ≤ w.heap.size) (h4 : e.kind = 5) : InEnds base g n c L hd j e w := by
  unfold InEnds
  have hset : stB (blAt L j) e = { blAt L j with wr := true } := by unfold stB; simp [h4]
  rw [hset]
  clear hset
  obtain ⟨th, k, a, x, o, er⟩ := e
  simp only at h4
  subst h4
  have hx := he.2
  simp only at hx
  have hg := hI.row.lt g rfl
  obtain ⟨g', hA, _, hc, _, _⟩ := hI.reads.at_ (Below.refl _ _) hj
  injection hA with hA
  injection hA with hA
  subst hA
  have hc4 := hc.c5
  have hfr := hI.frozen (j * 9 + 5)
  have hg2 : g < w.heap.size := hg.2
  have hst : HB (w.setCell ⟨g, j * 9 + 5, none⟩ (.bool true)) base (some ⟨g, 0, none⟩) n c (L.set j { blAt L j with wr := true }) hd := by
    refine hI.set j 5 _ _ hj (by decide) ?_ rfl rfl
    intro i hi
    have : i = 0 ∨ i = 1 ∨ i = 2 ∨ i = 3 ∨ i = 4 ∨ i = 5 ∨ i = 6 ∨ i = 7 ∨ i = 8 := by omega
    rcases this with rfl | rfl | rfl | rfl | rfl | rfl | rfl | rfl | rfl <;> simp [bcell]
  have HST := Lib.hid hst
  have hfx : (w.alloc (.cells #[.int .i64 th, .int .i64 5, .int .u64 a, .int .u64 x, .bool o, .int .i64 er] 97)).frozen? ⟨g, j * 9 + 5, none⟩ = false := frozen_alloc _ hg2 hfr
  generalize { blAt L j with wr := true } = bb at *
  generalize blAt L j = b at *
  clear hst hI hc
  go_enter Try.func91, Try.ntmps91
  go_wp2
  go_end0
  refine ⟨rfl, ?_, ?_, hd, ?_⟩
  · have hbg := hg.1
    go_grown
  · intro k hk h1 _
    exact (Below.heap_alloc _ _ k (by simpa using hk)).trans (Below.heap_setCell _ ⟨g, j * 9 + 5, none⟩ _ k h1)
  · exact HST.out.below (Nat.le_refl _) (by go_grown)
set_option maxRecDepth 100000 in
set_option maxHeartbeats 6400000 in
theorem in_read (e : Ev) (_he : e.Wd) (hI : HB w base (some ⟨g, 0, none⟩) n c L hd) (hj : j < n) (hbase : base ≤ w.heap.size) (h4 : e.kind = 2) (ho : e.own = false) (hlen : (blAt L j).rd.length ≤ 1099511627776) : InEnds base g n c L hd j e w := by
  unfold InEnds
  have hset : stB (blAt L j) e = { blAt L j with rd := (blAt L j).rd ++ [(e.addr, e.word)] } := by unfold stB; simp [h4, ho]
  rw [hset]
  clear hset
  obtain ⟨th, k, a, x, o, er⟩ := e
  simp only at h4
  subst h4
  simp only at ho
  subst ho
  have hg := hI.row.lt g rfl
  obtain ⟨g', hA, _, hc, _, _⟩ := hI.reads.at_ (Below.refl _ _) hj
  injection hA with hA
  injection hA with hA
  subst hA
  have hcell := hc.c7
  have hfr := hI.frozen (j * 9 + 7)
  have hg2 : g < w.heap.size := hg.2
  have hrow := hI.own (2 * j + 0) (by omega)
  have hent : ent L (2 * j + 0) = (blAt L j).rd := ent_rd L j
  rw [hent] at hrow
  have hne := hI.ne (i := 2 * j + 0) (by omega)
  have HI := Lib.hid hI
  obtain ⟨Aa, ca, hha⟩ := own_shape hrow
  have HA := Lib.hid hha
  rw [show hd (2 * j) = .slice Aa (blAt L j).rd.length ca from hha] at hcell
  rw [hha] at hrow hne
  have hne0 : some g ≠ (Value.slice Aa (blAt L j).rd.length ca).ownBlock := fun e => hne g e.symm rfl
  have hnb : ∀ g', (Value.slice Aa (blAt L j).rd.length ca).ownBlock = some g' → g' < w.heap.size := fun g' hg' => (OwnN.lt hrow g' hg').2
  obtain ⟨l0, hl0⟩ : ∃ l0, l0 = (blAt L j).rd := ⟨_, rfl⟩
  have HL0 := Lib.hid hl0
  rw [← hl0] at hcell hrow hne0 hnb hlen
  rw [← hl0] at HA
  have hrow' : w.ownsRow base 47 3 (.slice Aa l0.length ca) l0.length (l0.flatMap ncell) := hrow
  rw [← hl0]
  clear hl0 hent hI hha hc hrow hne
  go_enter Try.func91, Try.ntmps91
  go_wp2
  go_region_law
    ((refine step_append_two _ (by rfl) (.tmp 28) (.tmp 34) 41 (by rfl) base 47 _ 3 24 info47 Try.underlying41 rfl (by decide) (.slice Aa l0.length ca) l0.length (l0.flatMap ncell) (by rfl) ((((hrow'.alloc _).drew).alloc _)) (w.heap.size + 1) 1 [.int .u64 a, .int .u64 x, .bool false] (by rfl) (heap_at _ _ _ (by simp)) rfl (by simp [Value.oneCell']) (by omega) (by omega) (by simp; omega) ?_; intro g2 cap2 w2 hown2 hlt2 htwo; have hq2 : w2.cell? ⟨g, j * 9 + 7, none⟩ = some (.slice Aa l0.length ca) := (two_grown htwo).cell (by simp [World.cell?_alloc_some, hcell]) hne0; have hq3 : w2.frozen? ⟨g, j * 9 + 7, none⟩ = false := grown_frozen (two_grown htwo) (by simp; omega) hne0 (by simp [frozen?_alloc_cells, hfr])))
  all_goals
    have hgr := grown_trans (grown_trans (grown_trans (World.grownBy_alloc w _ _) (grown_drew _ _)) (World.grownBy_alloc _ _ _)) (two_grown htwo)
    have hat : (Value.slice (some ⟨g2, 0, none⟩) (l0.length + 1) cap2).ownBlock = (Value.slice Aa l0.length ca).ownBlock ∨ ∃ g', (Value.slice (some ⟨g2, 0, none⟩) (l0.length + 1) cap2).ownBlock = some g' ∧ w.heap.size ≤ g' := by
      rcases htwo with ⟨h1, _⟩ | ⟨h1, _⟩
      · exact .inl h1.symm
      · right
        refine ⟨g2, rfl, ?_⟩
        simp at h1
        omega
    rw [← HA.out] at hgr hat
    have hl2 : ((l0 ++ [(a, x)]).flatMap ncell) = l0.flatMap ncell ++ [.int .u64 a, .int .u64 x, .bool false] := by simp [List.flatMap_append, ncell]
    have hI2 : HB (w2.setCell ⟨g, j * 9 + 7 + 0, none⟩ (.slice (some ⟨g2, 0, none⟩) (l0.length + 1) cap2)) base (some ⟨g, 0, none⟩) n c (L.set j { blAt L j with rd := l0 ++ [(a, x)] }) (fun i => if i = 2 * j + 0 then .slice (some ⟨g2, 0, none⟩) (l0.length + 1) cap2 else hd i) := by
      refine HI.out.list j 0 (by decide) (.slice (some ⟨g2, 0, none⟩) (l0.length + 1) cap2) { blAt L j with rd := l0 ++ [(a, x)] } hj ?_ ?_ hat (fun i r t hi => ?_) rfl
      · show w2.ownsRow base 47 3 _ (l0 ++ [(a, x)]).length ((l0 ++ [(a, x)]).flatMap ncell)
        rw [hl2, List.length_append]
        exact hown2
      · exact fun g' h1 h2 => hgr.block g' h1 (Ne.symm h2)
      · have : i = 0 ∨ i = 1 ∨ i = 2 ∨ i = 3 ∨ i = 4 ∨ i = 5 ∨ i = 6 := by omega
        rcases this with rfl | rfl | rfl | rfl | rfl | rfl | rfl <;> rfl
    have HI2 := Lib.hid hI2
    have hsz2 := hgr.size
    have hbl : Below base w w2 := (Below.refl _ _).grown hgr hbase (fun g' hg' => (OwnN.lt (HI.out.own (2 * j + 0) (by omega)) g' hg').1)
    clear hI2 hat hown2 hlt2 htwo hq2 hq3 hl2
    go_wp2
    go_end0
    refine ⟨rfl, ?_, ?_, _, HI2.out⟩
    · exact hbl.setCell hg.1 _
    · intro k hk h1 h2
      exact (Below.heap_setCell w2 ⟨g, _, none⟩ _ k h1).trans (hgr.block k hk (Ne.symm (h2 (2 * j + 0) (by omega))))
set_option maxRecDepth 100000 in
set_option maxHeartbeats 6400000 in
theorem in_write (e : Ev) (_he : e.Wd) (hI : HB w base (some ⟨g, 0, none⟩) n c L hd) (hj : j < n) (hbase : base ≤ w.heap.size) (h4 : e.kind = 3) (hlen : (blAt L j).wt.length ≤ 1099511627776) : InEnds base g n c L hd j e w := by
  unfold InEnds
  have hset : stB (blAt L j) e = { blAt L j with wt := (blAt L j).wt ++ [(e.addr, e.word)] } := by unfold stB; simp [h4]
  rw [hset]
  clear hset
  obtain ⟨th, k, a, x, o, er⟩ := e
  simp only at h4
  subst h4
  have hg := hI.row.lt g rfl
  obtain ⟨g', hA, _, hc, _, _⟩ := hI.reads.at_ (Below.refl _ _) hj
  injection hA with hA
  injection hA with hA
  subst hA
  have hcell := hc.c8
  have hfr := hI.frozen (j * 9 + 8)
  have hg2 : g < w.heap.size := hg.2
  have hrow := hI.own (2 * j + 1) (by omega)
  have hent : ent L (2 * j + 1) = (blAt L j).wt := ent_wt L j
  rw [hent] at hrow
  have hne := hI.ne (i := 2 * j + 1) (by omega)
  have HI := Lib.hid hI
  obtain ⟨Aa, ca, hha⟩ := own_shape hrow
  have HA := Lib.hid hha
  rw [show hd (2 * j + 1) = .slice Aa (blAt L j).wt.length ca from hha] at hcell
  rw [hha] at hrow hne
  have hne0 : some g ≠ (Value.slice Aa (blAt L j).wt.length ca).ownBlock := fun e => hne g e.symm rfl
  have hnb : ∀ g', (Value.slice Aa (blAt L j).wt.length ca).ownBlock = some g' → g' < w.heap.size := fun g' hg' => (OwnN.lt hrow g' hg').2
  obtain ⟨l0, hl0⟩ : ∃ l0, l0 = (blAt L j).wt := ⟨_, rfl⟩
  have HL0 := Lib.hid hl0
  rw [← hl0] at hcell hrow hne0 hnb hlen
  rw [← hl0] at HA
  have hrow' : w.ownsRow base 47 3 (.slice Aa l0.length ca) l0.length (l0.flatMap ncell) := hrow
  rw [← hl0]
  clear hl0 hent hI hha hc hrow hne
  go_enter Try.func91, Try.ntmps91
  go_wp2
  go_region_law
    ((refine step_append_two _ (by rfl) (.tmp 44) (.tmp 50) 41 (by rfl) base 47 _ 3 24 info47 Try.underlying41 rfl (by decide) (.slice Aa l0.length ca) l0.length (l0.flatMap ncell) (by rfl) ((((hrow'.alloc _).drew).alloc _)) (w.heap.size + 1) 1 [.int .u64 a, .int .u64 x, .bool false] (by rfl) (heap_at _ _ _ (by simp)) rfl (by simp [Value.oneCell']) (by omega) (by omega) (by simp; omega) ?_; intro g2 cap2 w2 hown2 hlt2 htwo; have hq2 : w2.cell? ⟨g, j * 9 + 8, none⟩ = some (.slice Aa l0.length ca) := (two_grown htwo).cell (by simp [World.cell?_alloc_some, hcell]) hne0; have hq3 : w2.frozen? ⟨g, j * 9 + 8, none⟩ = false := grown_frozen (two_grown htwo) (by simp; omega) hne0 (by simp [frozen?_alloc_cells, hfr])))
  all_goals
    have hgr := grown_trans (grown_trans (grown_trans (World.grownBy_alloc w _ _) (grown_drew _ _)) (World.grownBy_alloc _ _ _)) (two_grown htwo)
    have hat : (Value.slice (some ⟨g2, 0, none⟩) (l0.length + 1) cap2).ownBlock = (Value.slice Aa l0.length ca).ownBlock ∨ ∃ g', (Value.slice (some ⟨g2, 0, none⟩) (l0.length + 1) cap2).ownBlock = some g' ∧ w.heap.size ≤ g' := by
      rcases htwo with ⟨h1, _⟩ | ⟨h1, _⟩
      · exact .inl h1.symm
      · right
        refine ⟨g2, rfl, ?_⟩
        simp at h1
        omega
    rw [← HA.out] at hgr hat
    have hl2 : ((l0 ++ [(a, x)]).flatMap ncell) = l0.flatMap ncell ++ [.int .u64 a, .int .u64 x, .bool false] := by simp [List.flatMap_append, ncell]
    have hI2 : HB (w2.setCell ⟨g, j * 9 + 7 + 1, none⟩ (.slice (some ⟨g2, 0, none⟩) (l0.length + 1) cap2)) base (some ⟨g, 0, none⟩) n c (L.set j { blAt L j with wt := l0 ++ [(a, x)] }) (fun i => if i = 2 * j + 1 then .slice (some ⟨g2, 0, none⟩) (l0.length + 1) cap2 else hd i) := by
      refine HI.out.list j 1 (by decide) (.slice (some ⟨g2, 0, none⟩) (l0.length + 1) cap2) { blAt L j with wt := l0 ++ [(a, x)] } hj ?_ ?_ hat (fun i r t hi => ?_) rfl
      · show w2.ownsRow base 47 3 _ (l0 ++ [(a, x)]).length ((l0 ++ [(a, x)]).flatMap ncell)
        rw [hl2, List.length_append]
        exact hown2
      · exact fun g' h1 h2 => hgr.block g' h1 (Ne.symm h2)
      · have : i = 0 ∨ i = 1 ∨ i = 2 ∨ i = 3 ∨ i = 4 ∨ i = 5 ∨ i = 6 := by omega
        rcases this with rfl | rfl | rfl | rfl | rfl | rfl | rfl <;> rfl
    have HI2 := Lib.hid hI2
    have hsz2 := hgr.size
    have hbl : Below base w w2 := (Below.refl _ _).grown hgr hbase (fun g' hg' => (OwnN.lt (HI.out.own (2 * j + 1) (by omega)) g' hg').1)
    clear hI2 hat hown2 hlt2 htwo hq2 hq3 hl2
    go_wp2
    go_end0
    refine ⟨rfl, ?_, ?_, _, HI2.out⟩
    · exact hbl.setCell hg.1 _
    · intro k hk h1 h2
      exact (Below.heap_setCell w2 ⟨g, _, none⟩ _ k h1).trans (hgr.block k hk (Ne.symm (h2 (2 * j + 1) (by omega))))
end
end Go.Proofs.Ytjifpjfinffamaa
end
section
namespace Go.Proofs.Ytjifpjfinffamaa
open Go.RowKit
def OverK (k : Int) : Prop := k = 6 ∨ k = 8 ∨ k = 9 ∨ k = 7
instance (k : Int) : Decidable (OverK k) := inferInstanceAs (Decidable (_ ∨ _ ∨ _ ∨ _))
def endF (th : Int) : List Ev → Nat → Nat → Nat × Bool
  | [], _, last => (last, false)
  | e :: r, i, last => if e.th ≠ th then endF th r (i + 1) last else if OverK e.kind then (i, true) else endF th r (i + 1) i
theorem endF_step {l : List Ev} {p : Nat} {e : Ev} (he : l[p]? = some e) (th : Int) (last : Nat) : endF th (l.drop p) p last = if e.th ≠ th then endF th (l.drop (p + 1)) (p + 1) last else if OverK e.kind then (p, true) else endF th (l.drop (p + 1)) (p + 1) p := by
  obtain ⟨hp, rfl⟩ := List.getElem?_eq_some_iff.1 he
  rw [List.drop_eq_getElem_cons hp]
  rfl
theorem endF_end (th : Int) (l : List Ev) (last : Nat) : endF th (l.drop l.length) l.length last = (last, false) := by
  rw [List.drop_length]
  rfl
def endV (x : Nat × Bool) : Value := .tuple #[.int .i64 (x.1 : Int), .bool x.2]
set_option linter.unusedSimpArgs false in
set_option maxRecDepth 100000 in
set_option maxHeartbeats 3200000 in
theorem end_any (A : Option Addr) (cap : Nat) (l : List Ev) (at_ : Nat) (e0 : Ev) (w : World) (hl : l.length ≤ 1099511627776) (hat : l[at_]? = some e0) (hc : EvR w w.heap.size A l) :
    Calls Try.prog 99 #[.slice A l.length cap, .int .i64 (at_ : Int)] w fun e w' => e = .returned (endV (endF e0.th (l.drop (at_ + 1)) (at_ + 1) at_)) ∧ ∃ m, w' = w.drewN m := by
  have hal : at_ < l.length := (List.getElem?_eq_some_iff.1 hat).1
  have HC := Lib.hid hc
  have HAT := Lib.hid hat
  clear hc hat
  obtain ⟨R, hR⟩ : ∃ R, R = endF e0.th (l.drop (at_ + 1)) (at_ + 1) at_ := ⟨_, rfl⟩
  have HR := Lib.hid hR
  rw [← hR]
  clear hR
  go_enter Try.func99, Try.ntmps99
  go_wp2
  go_loopw [7, 6] (fun i v wr => ∃ (p last : Nat), p ≤ l.length ∧ i = .int .i64 p ∧ v = .int .i64 last ∧ Hid (R = endF e0.th (l.drop p) p last) ∧ ∃ m, wr = w.drewN m) (fun i _ _ => l.length - (intOf i).toNat)
  case atStart => exact ⟨at_ + 1, at_, hal, by go_num, rfl, HR, 0, rfl⟩
  case round =>
    obtain ⟨p, last, hp, rfl, rfl, HX, m, rfl⟩ := hrel
    by_cases hlt : p < l.length
    · obtain ⟨eb, eo, e, hA, heb, he, _, b0, b1, b2, b3, b4, b5⟩ := HC.out.at_ (Below.refl _ _) hlt
      subst hA
      obtain ⟨eb', eo', e', hA, _, he', _, a0, a1, a2, a3, a4, a5⟩ := HC.out.at_ (Below.refl _ _) hal
      injection hA with hA
      injection hA with h1 h2
      subst h1 h2
      have hee : e' = e0 := by
        have := he'.out.symm.trans HAT.out
        simpa using this
      subst hee
      have hst := HX.out
      rw [endF_step he.out] at hst
      obtain ⟨t, k, a, x, o, er⟩ := e
      obtain ⟨t0, k0, a0', x0, o0, er0⟩ := e'
      simp only at b0 b1 a0 hst
      have HST := Lib.hid hst
      have i1 : (0 : Int) ≤ (p : Int) := by omega
      have i2 : (p : Int) < (l.length : Int) := by omega
      have i3 : (0 : Int) ≤ (at_ : Int) := by omega
      have i4 : (at_ : Int) < (l.length : Int) := by omega
      clear hst he he' HX b2 b3 b4 b5 a1 a2 a3 a4 a5 HAT HR
      by_cases htt : t = t0
      · subst htt
        have e1 : (t != t) = false := by simp
        by_cases hk : OverK k
        · have HF := Lib.hid (show R = (p, true) by rw [HST.out, if_neg (by simp), if_pos hk])
          clear HST
          rcases hk with rfl | rfl | rfl | rfl
          all_goals
            go_wp2
            go_quiet (fail)
            go_wp2
            go_ret2
            exact ⟨by rw [HF.out]; rfl, _, rfl⟩
        · have HX2 := Lib.hid (show R = endF t (l.drop (p + 1)) (p + 1) p by rw [HST.out, if_neg (by simp), if_neg hk])
          have k6 : (k == 6) = false := by simp; exact fun e => hk (.inl e)
          have k8 : (k == 8) = false := by simp; exact fun e => hk (.inr (.inl e))
          have k9 : (k == 9) = false := by simp; exact fun e => hk (.inr (.inr (.inl e)))
          have k7 : (k == 7) = false := by simp; exact fun e => hk (.inr (.inr (.inr e)))
          clear HST hk
          go_wp2
          go_quiet (fail)
          go_wp2
          go_roundw
          case rel => exact ⟨p + 1, p, hlt, by go_num, rfl, HX2, _, rfl⟩
          case measure => simp [intOf]; omega
      · have HX2 := Lib.hid (show R = endF t0 (l.drop (p + 1)) (p + 1) last by rw [HST.out, if_pos htt])
        have e1 : (t != t0) = true := by simpa using htt
        clear HST htt
        go_wp2
        go_quiet (fail)
        go_wp2
        go_roundw
        case rel => exact ⟨p + 1, last, hlt, by go_num, rfl, HX2, _, rfl⟩
        case measure => simp [intOf]; omega
    · obtain rfl : p = l.length := by omega
      have HF := Lib.hid (show R = (last, false) by rw [HX.out, endF_end])
      clear HX
      go_wp2
      go_ret2
      exact ⟨by rw [HF.out]; rfl, m, rfl⟩
end Go.Proofs.Ytjifpjfinffamaa
end
