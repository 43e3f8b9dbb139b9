/- Texts VE VF YH R2 R3, laid together. -/
import Derived.Test.YtjifpjfinffamaaZ3
import Derived.Test.YtjifpjfinffamaaZ8
import Derived.Test.YtjifpjfinffamaaZ9
import Derived.Test.YtjifpjfinffamaaZ11
import Derived.BigQuiet
section
namespace Go.Proofs.Ytjifpjfinffamaa
open Go.RowKit Go.Maps
theorem info214 : (Try.prog.info? 214).map (fun i => (i.zero, i.size, i.bytes)) = some (some (.agg #[.int .i64 0, .int .i64 0, .int .i64 0, .int .u64 0, .int .i64 0, .int .i64 0, .int .i64 0]), 7, 56) := by kernel_rfl
theorem fld_at {H S M R : Nat → Value} {n d a : Value} {t : Nat} (h8 : t < 8) : fld H S M R n d a (52 + t * 4) = H t ∧ fld H S M R n d a (52 + t * 4 + 1) = S t ∧ fld H S M R n d a (52 + t * 4 + 2) = M t ∧ fld H S M R n d a (52 + t * 4 + 3) = R t := by
  refine ⟨?_, ?_, ?_, ?_⟩
  · unfold fld
    rw [if_neg (by omega), if_neg (by omega), if_neg (by omega), if_neg (by omega), if_pos (by omega), show (52 + t * 4 - 52) / 4 = t by omega]
  · unfold fld
    rw [if_neg (by omega), if_neg (by omega), if_neg (by omega), if_neg (by omega), if_neg (by omega), if_pos (by omega), show (52 + t * 4 + 1 - 52) / 4 = t by omega]
  · unfold fld
    rw [if_neg (by omega), if_neg (by omega), if_neg (by omega), if_neg (by omega), if_neg (by omega), if_neg (by omega), if_pos (by omega), show (52 + t * 4 + 2 - 52) / 4 = t by omega]
  · unfold fld
    rw [if_neg (by omega), if_neg (by omega), if_neg (by omega), if_neg (by omega), if_neg (by omega), if_neg (by omega), if_neg (by omega), show (52 + t * 4 + 3 - 52) / 4 = t by omega]
theorem newTry (a b : Int) (M : Nat) : Shape M [.int .i64 a, .int .i64 b, .int .i64 0, .int .u64 0, .int .i64 0, .int .i64 0, .int .i64 0] := by
  intro q x hx
  match q, hx with
  | 0, hx => injection hx with hx; exact ⟨a, hx.symm, fun h => absurd h (by decide)⟩
  | 1, hx => injection hx with hx; exact ⟨b, hx.symm, fun h => absurd h (by decide)⟩
  | 2, hx => injection hx with hx; exact ⟨0, hx.symm, fun h => absurd h (by decide)⟩
  | 3, hx => injection hx with hx; exact ⟨0, hx.symm⟩
  | 4, hx => injection hx with hx; exact ⟨0, hx.symm, fun h => absurd h (by decide)⟩
  | 5, hx => injection hx with hx; exact ⟨0, hx.symm, fun _ => ⟨by omega, by omega⟩⟩
  | 6, hx => injection hx with hx; exact ⟨0, hx.symm, fun _ => ⟨by omega, by omega⟩⟩
  | q + 7, hx => simp at hx
set_option linter.unusedSimpArgs false in
set_option maxRecDepth 100000 in
set_option maxHeartbeats 6400000 in
theorem take_1 (base b m : Nat) (p : Int) (s : SS) (mp : Nat → Option Nat) (tr : Nat → Int) (hd : Int) (At : Option Addr) (ct nt : Nat) (vs : List Value) (e : Ev) (w : World) (he : e.Wd) (hm : m ≤ 1099511627776) (hI : LInv w base b m s mp tr hd At ct nt vs) (hput : putE s e = 0) (hq : e.kind = 1 ∧ (s.t e.th.toNat).how = 0) (hbase : base ≤ w.heap.size) :
    Calls Try.prog 118 #[.pointer (some ⟨b, 0, none⟩), .int .i64 p, evV e] w fun e' w' => e' = .returned (.tuple #[]) ∧ Below base w w' ∧ ∃ mp' tr' hd' At' ct' nt' vs', LInv w' base b (m + 1) (adv s e) mp' tr' hd' At' ct' nt' vs' := by
  obtain ⟨t, k, a, x, o, er⟩ := e
  simp only at hq
  have hF : Fm ⟨t, k, a, x, o, er⟩ := by
    unfold putE at hput
    split at hput
    · cases hput
    · rename_i h; exact Classical.not_not.1 h
  have hF1 := hF.1
  have hF2 := hF.2.1
  simp only at hF1 hF2
  obtain ⟨t, rfl⟩ := Int.eq_ofNat_of_zero_le hF1.1
  obtain ⟨k, rfl⟩ := Int.eq_ofNat_of_zero_le (show 0 ≤ k by omega)
  have hhr := hI.how t (by omega)
  obtain ⟨hw, hhw⟩ := Int.eq_ofNat_of_zero_le hhr.1
  simp only [Int.toNat_natCast, hhw] at hq
  have HQ := Lib.hid hq
  clear hq
  obtain ⟨h8, hk, hnx, hlk, _⟩ := put_ok hput hhw (by omega)
  have h4 : hw < 4 := by omega
  obtain ⟨tv, htv, _, hpos⟩ := tab_next h4 hk er
  have htv2 := hpos hnx
  have i1 : (0 : Int) ≤ (t : Int) := by omega
  have i2 : (t : Int) < 8 := by omega
  have i3 : (0 : Int) ≤ (k : Int) := by omega
  have i4 : (k : Int) < 13 := by omega
  have j1 : (0 : Int) ≤ (hw : Int) := by omega
  have j2 : (hw : Int) < 4 := by omega
  obtain ⟨ms, hM, hMO⟩ := hI.mem
  have HI := Lib.hid hI
  have HMG2 := Lib.hid (fun i x (hx : ms i = some x) => (hM.maps i x hx).2.lt)
  have HE := Lib.hid he
  have HHW := Lib.hid hhw
  have HNX := Lib.hid htv2
  have HN0 := Lib.hid hnx
  have HNXE := Lib.hid (show tv - 1 = nextI (s.t t).how (Ev.mk (t : Int) (k : Int) a x o er).kind (Ev.mk (t : Int) (k : Int) a x o er).err by rw [hhw]; exact htv2)
  have HLK := Lib.hid hlk
  have HTV := Lib.hid htv
  have HMO := Lib.hid hMO
  have HB := Lib.hid (((Below.refl w.heap.size w).alloc (Nat.le_refl _) (.cells #[.int .i64 t, .int .i64 k, .int .u64 a, .int .u64 x, .bool o, .int .i64 er] 97)).mono hbase)
  have HX := Lib.hid (BoxE.made w ⟨(t : Int), (k : Int), a, x, o, er⟩)
  have hM1 := hM.alloc (.cells #[.int .i64 t, .int .i64 k, .int .u64 a, .int .u64 x, .bool o, .int .i64 er] 97)
  rw [lF_fld] at hM1
  have HM := Lib.hid hM1
  have v1 : 1 ≤ tv := by omega
  have v2 : tv ≤ 4 := by have := next_le hw k er; omega
  clear hput hF hF1 hF2 hhr hhw hlk hM hM1 hMO hI he htv htv2 hpos hnx
  show Calls Try.prog 118 #[.pointer (some ⟨b, 0, none⟩), .int .i64 p, .agg #[.int .i64 t, .int .i64 k, .int .u64 a, .int .u64 x, .bool o, .int .i64 er]] w _
  go_enter Try.func118, Try.ntmps118
  have hgb : b ≠ w.heap.size := by have := HI.out.blk.lt.2; omega
  obtain ⟨hg, c0, c1, c2, c3, c4, c5⟩ := HX.out
  simp only at c0 c1 c2 c3 c4 c5
  go_wp2
  go_quiet (fail)
  have hbel : Below w.heap.size w ((w.alloc (.cells #[.int .i64 t, .int .i64 k, .int .u64 a, .int .u64 x, .bool o, .int .i64 er] 97)).drewN nq) := bdrewN ((Below.refl w.heap.size w).alloc (Nat.le_refl _) _) nq
  have hMW := HM.out.still (w' := (w.alloc (.cells #[.int .i64 t, .int .i64 k, .int .u64 a, .int .u64 x, .bool o, .int .i64 er] 97)).drewN nq) (fun _ _ => rfl)
  have hXW := HX.out.below (w' := (w.alloc (.cells #[.int .i64 t, .int .i64 k, .int .u64 a, .int .u64 x, .bool o, .int .i64 er] 97)).drewN nq) (bdrewN (Below.refl _ _) nq)
  have hBW := bdrewN HB.out nq
  have hIW := HI.out.kept hbel
  have HLT := Lib.hid (fun q hq => (hIW.trs.lt q hq).1 : ∀ q, (Value.slice At nt ct).ownBlock = some q → base ≤ q)
  have hgl : w.heap.size < ((w.alloc (.cells #[.int .i64 t, .int .i64 k, .int .u64 a, .int .u64 x, .bool o, .int .i64 er] 97)).drewN nq).heap.size := hXW.lt
  have HTG := Lib.hid (fun q hq => (HI.out.trs.lt q hq).2 : ∀ q, (Value.slice At nt ct).ownBlock = some q → q < w.heap.size)
  have HMG := Lib.hid (fun i x (hx : ms i = some x) => (hMW.maps i x hx).2.lt)
  clear HM HX HB hbel c0 c1 c2 c3 c4 c5 hg
  generalize ((w.alloc (.cells #[.int .i64 t, .int .i64 k, .int .u64 a, .int .u64 x, .bool o, .int .i64 er] 97)).drewN nq) = W at *
  obtain ⟨_, c0, c1, c2, c3, c4, c5⟩ := id hXW
  simp only at c0 c1 c2 c3 c4 c5
  generalize w.heap.size = g at *
  have hC := hIW.cells
  have d0 := hC.how t h8
  rw [HHW.out] at d0
  have f0 := (hIW.blk.cell (j := 52 + t * 4) (by omega)).2
  have d1 := hC.snap t h8
  have f1 := (hIW.blk.cell (j := 52 + t * 4 + 1) (by omega)).2
  have d2 := hC.map t h8
  have f2 := (hIW.blk.cell (j := 52 + t * 4 + 2) (by omega)).2
  have d3 := hC.try_ t h8
  have f3 := (hIW.blk.cell (j := 52 + t * 4 + 3) (by omega)).2
  have d4 := hC.num
  have f4 := (hIW.blk.cell (j := 84) (by omega)).2
  have d5 := hC.hd
  have f5 := (hIW.blk.cell (j := 85) (by omega)).2
  have d6 := hC.trs
  have f6 := (hIW.blk.cell (j := 86) (by omega)).2
  have dt := hC.tab (hw * 13 + k) (by omega)
  rw [HTV.out] at dt
  have HMW := Lib.hid hMW
  have HIW := Lib.hid hIW
  have HXW := Lib.hid hXW
  have HBW := Lib.hid hBW
  have hzW : base ≤ W.heap.size := Nat.le_of_lt (Nat.lt_of_le_of_lt hbase hgl)
  clear hC hIW hMW hBW hXW
  obtain ⟨rfl, rfl⟩ : k = 1 ∧ hw = 0 := by have := HQ.out; omega
  clear HQ
  simp only [Nat.zero_mul, Nat.zero_add, Nat.one_mul, Nat.reduceMul, Nat.reduceAdd] at dt
  have hmm := @run_makeMap Try.prog
  have hbb : base ≤ b := HI.out.blk.lt.1
  have hbW : b < W.heap.size := HMW.out.blk.lt.2
  have hwb : W.heap.size ≠ b := by omega
  have hbg3 : g ≠ b := fun e => hgb e.symm
  have hne0 : some b ≠ (Value.slice At nt ct).ownBlock := fun e => HMW.out.trs_ne e.symm
  have hneg0 : some g ≠ (Value.slice At nt ct).ownBlock := fun e => by have := HTG.out g e.symm; omega
  have hnt := HI.out.few
  have hs3 : ((W.setCell ⟨b, 52 + t * 4 + 2, none⟩ (.map (some W.heap.size))).setCell ⟨b, 52 + t * 4 + 3, none⟩ (.int .i64 (nt : Int))).heap.size = W.heap.size := by simp
  have hM3 := (((HMW.out.more (Nat.le_succ m)).setMap h8 (.map (some W.heap.size))).setTry h8 (.int .i64 (nt : Int))).newmap (by rw [hs3]; exact hzW) t
  rw [hs3] at hM3
  have HM3 := Lib.hid hM3
  have hB3 := ((HBW.out.setCell (p := ⟨b, 52 + t * 4 + 2, none⟩) hbb (.map (some W.heap.size))).setCell (p := ⟨b, 52 + t * 4 + 3, none⟩) hbb (.int .i64 (nt : Int))).alloc (by rw [hs3]; exact hzW) (.map #[] 0)
  have HB3 := Lib.hid hB3
  have HOW := Lib.hid hM3.trs
  clear hM3 hB3 hs3
  have hq4 : W.alloc (.map #[] 0) = W.alloc (.map #[] 0) := rfl
  clear hq4
  go_wp2
  generalize hW3 : ((W.setCell ⟨b, 52 + t * 4 + 2, none⟩ (.map (some W.heap.size))).setCell ⟨b, 52 + t * 4 + 3, none⟩ (.int .i64 (nt : Int))).alloc (.map #[] 0) = W3 at *
  have hcc : ∀ (j : Nat) (v : Value), W.cell? ⟨g, j, none⟩ = some v → W3.cell? ⟨g, j, none⟩ = some v := fun j v h => by
    rw [← hW3]
    exact (World.grownBy_alloc _ (.map #[] 0) none).cell ((grown_set _ _ _).cell ((grown_set _ _ _).cell h (by simp; omega)) (by simp; omega)) (by simp)
  have c0' := hcc _ _ c0
  have c1' := hcc _ _ c1
  have c3' := hcc _ _ c3
  have hz3 : base ≤ W3.heap.size := by rw [← hW3]; simp; omega
  have hb3 : b < W3.heap.size := HM3.out.blk.lt.2
  have hg3 : g < W3.heap.size := by rw [← hW3]; simp; omega
  have d6' : W3.cell? ⟨b, 86, none⟩ = some (.slice At nt ct) := (HM3.out.blk.cell (j := 86) (by omega)).1
  have f6' := (HM3.out.blk.cell (j := 86) (by omega)).2
  have HH3 := Lib.hid hW3
  have HCC := Lib.hid hcc
  clear hW3 hcc c0 c1 c2 c3 c4 c5 d0 d1 d2 d3 d4 d5 d6 f0 f1 f2 f3 f4 f5 f6 HMW HBW HIW HXW hgl hbW hwb
  go_region_law
    ((refine step_append_two _ (by rfl) (.tmp 33) (.tmp 38) 191 (by rfl) base 214 _ 7 56 info214 Try.underlying191 rfl (by decide) (.slice At nt ct) nt vs (by rfl) ((World.ownsRow.drew HM3.out.trs).alloc _) (W3.heap.size) 1 [.int .i64 (t : Int), .int .i64 p, .int .i64 0, .int .u64 0, .int .i64 0, .int .i64 0, .int .i64 0] (by rfl) (heap_at _ _ _ (by simp)) rfl (by simp [Value.oneCell']) (by omega) (by omega) (by simp; omega) ?_; intro g2 cap2 w5 hown5 hlt5 htwo; have hq2 : w5.cell? ⟨b, 86, none⟩ = some (.slice At nt ct) := (two_grown htwo).cell (by simp [World.cell?_alloc_some, d6']) hne0; have hq3 : w5.frozen? ⟨b, 86, none⟩ = false := grown_frozen (two_grown htwo) (by simp; omega) hne0 (by simp [frozen?_alloc_cells, f6'])))
  all_goals
    have hgr := grown_trans (grown_trans (grown_drew W3 _) (World.grownBy_alloc _ _ _)) (two_grown htwo)
    have hA := LMem.appended HM3.out (newTry _ _ _) hown5 hgr
    have hM6 := hA.setTrs (.slice (some ⟨g2, 0, none⟩) (nt + 1) cap2)
    have hB6 := (HB3.out.grown hgr hz3 (fun q hq => (HM3.out.trs.lt q hq).1)).setCell (p := ⟨b, 86, none⟩) hbb (.slice (some ⟨g2, 0, none⟩) (nt + 1) cap2)
    have hc : ∀ (j : Nat) (v : Value), W3.cell? ⟨g, j, none⟩ = some v → (w5.setCell ⟨b, 86, none⟩ (.slice (some ⟨g2, 0, none⟩) (nt + 1) cap2)).cell? ⟨g, j, none⟩ = some v := fun j v h => (grown_set _ _ _).cell (hgr.cell h hneg0) (by simp; omega)
    have k0 := hc _ _ c0'
    have k1 := hc _ _ c1'
    have k3 := hc _ _ c3'
    have hbt : base ≤ g2 := (hA.trs.lt g2 rfl).1
    have hbg : b ≠ g2 := fun e => hM6.trs_ne (congrArg some e.symm)
    have hbg2 : g2 ≠ b := fun e => hbg e.symm
    have HM6 := Lib.hid hM6
    have HB6 := Lib.hid hB6
    clear hgr hA hM6 hB6 hc c0' c1' c3' hown5 htwo hlt5 hq2 hq3 d6' f6'
    generalize w5.setCell ⟨b, 86, none⟩ (.slice (some ⟨g2, 0, none⟩) (nt + 1) cap2) = W6 at *
    have d0 : W6.cell? ⟨b, 52 + t * 4, none⟩ = some (.int .i64 0) := by rw [(HM6.out.blk.cell (j := 52 + t * 4) (by omega)).1, (fld_at h8).1, HHW.out]; rfl
    have d1 : W6.cell? ⟨b, 52 + t * 4 + 1, none⟩ = some (.int .u64 (s.t t).snap) := by rw [(HM6.out.blk.cell (j := 52 + t * 4 + 1) (by omega)).1, (fld_at h8).2.1]
    have d3 : W6.cell? ⟨b, 52 + t * 4 + 3, none⟩ = some (.int .i64 (nt : Int)) := by rw [(HM6.out.blk.cell (j := 52 + t * 4 + 3) (by omega)).1, (fld_at h8).2.2.2]; simp [upf]
    have d6 : W6.cell? ⟨b, 86, none⟩ = some (.slice (some ⟨g2, 0, none⟩) (nt + 1) cap2) := by rw [(HM6.out.blk.cell (j := 86) (by omega)).1]; rfl
    have d7 : W6.cell? ⟨b, 1, none⟩ = some (.int .i64 tv) := by rw [(HM6.out.blk.cell (j := 1) (by omega)).1]; exact congrArg some HTV.out
    have f0 := (HM6.out.blk.cell (j := 52 + t * 4) (by omega)).2
    have f1 := (HM6.out.blk.cell (j := 52 + t * 4 + 1) (by omega)).2
    obtain ⟨⟨y2, e2, hy2⟩, g2'⟩ := HM6.out.attempt_at (q := nt * 7 + 2) (by omega)
    rw [if_neg (by omega)] at hy2
    obtain ⟨y2, rfl, _⟩ := hy2
    obtain ⟨⟨y3, e3, hy3⟩, g3'⟩ := HM6.out.attempt_at (q := nt * 7 + 3) (by omega)
    rw [if_pos (by omega)] at hy3
    obtain ⟨y3, rfl⟩ := hy3
    have r1 : (0 : Int) ≤ (nt : Int) := by omega
    have r2 : (nt : Int) < ((nt + 1 : Nat) : Int) := by omega
    have r3 : (nt : Int) < (nt : Int) + 1 := by omega
    go_wp2
    go_quiet (fail)
    go_wp2
    go_region
    all_goals
      go_wp2
      go_region
      go_wp2
      go_end0
      obtain ⟨vs1, hM1⟩ := LMem.attempt (HM6.out.still (w' := W6.drewN nq) (fun _ _ => rfl)) (nt * 7 + 2) (.int .i64 p) (by rw [if_neg (by omega)]; exact ⟨_, rfl, fun h => by omega⟩)
      have hM2 := LMem.setSnap hM1 h8 (.int .u64 x)
      obtain ⟨vs3, hM3⟩ := LMem.attempt hM2 (nt * 7 + 3) (.int .u64 x) (by rw [if_pos (by omega)]; exact ⟨_, rfl⟩)
      have hM4 := LMem.setHow hM3 h8 (.int .i64 (tv - 1))
      rw [upf_map, upf_try (tr := tr)] at hM4
      have hv0 : tv - 1 = 1 := by rw [HNX.out]; simp [nextI]
      have hBF := ((((bdrewN HB6.out nq).setCell (p := ⟨g2, nt * 7 + 2, none⟩) hbt (.int .i64 p)).setCell (p := ⟨b, 52 + t * 4 + 1, none⟩) hbb (.int .u64 x)).setCell (p := ⟨g2, nt * 7 + 3, none⟩) hbt (.int .u64 x)).setCell (p := ⟨b, 52 + t * 4, none⟩) hbb (.int .i64 (tv - 1))
      exact ⟨rfl, hBF.drew.drew, fun i => if i = t then some W.heap.size else mp i, fun i => if i = t then (nt : Int) else tr i, hd, some ⟨g2, 0, none⟩, cap2, nt + 1, vs3, LMem.fin (t := t) (nx := tv - 1) HI.out (by rw [adv_fld s _ (t := t) (by simp) HNXE.out, if_pos (by simp), if_neg (by simp)]; exact hM4.drew.drew) (by simp) HE.out (by omega) HNXE.out HMO.out (fun i hi => ⟨by simp [hi], by simp [upm, hi], by simp [hi]⟩) ⟨Nat.le_succ _, Nat.succ_le_succ HI.out.few⟩ (fun _ => ⟨W.heap.size, 0, .map [], by simp [upm], by simp, by omega, by simpa [advT] using MDw.start⟩) (fun _ => by simp; omega) (hold_same (t := t) HI.out (by simp) HNXE.out (by omega) (by rw [HHW.out]; decide))⟩
set_option linter.unusedSimpArgs false in
set_option maxRecDepth 100000 in
set_option maxHeartbeats 6400000 in
theorem take_3 (base b m : Nat) (p : Int) (s : SS) (mp : Nat → Option Nat) (tr : Nat → Int) (hd : Int) (At : Option Addr) (ct nt : Nat) (vs : List Value) (e : Ev) (w : World) (he : e.Wd) (hm : m ≤ 1099511627776) (hI : LInv w base b m s mp tr hd At ct nt vs) (hput : putE s e = 0) (hq : e.kind = 3 ∧ (s.t e.th.toNat).how = 1) (hbase : base ≤ w.heap.size) :
    Calls Try.prog 118 #[.pointer (some ⟨b, 0, none⟩), .int .i64 p, evV e] w fun e' w' => e' = .returned (.tuple #[]) ∧ Below base w w' ∧ ∃ mp' tr' hd' At' ct' nt' vs', LInv w' base b (m + 1) (adv s e) mp' tr' hd' At' ct' nt' vs' := by
  obtain ⟨t, k, a, x, o, er⟩ := e
  simp only at hq
  have hF : Fm ⟨t, k, a, x, o, er⟩ := by
    unfold putE at hput
    split at hput
    · cases hput
    · rename_i h; exact Classical.not_not.1 h
  have hF1 := hF.1
  have hF2 := hF.2.1
  simp only at hF1 hF2
  obtain ⟨t, rfl⟩ := Int.eq_ofNat_of_zero_le hF1.1
  obtain ⟨k, rfl⟩ := Int.eq_ofNat_of_zero_le (show 0 ≤ k by omega)
  have hhr := hI.how t (by omega)
  obtain ⟨hw, hhw⟩ := Int.eq_ofNat_of_zero_le hhr.1
  simp only [Int.toNat_natCast, hhw] at hq
  have HQ := Lib.hid hq
  clear hq
  obtain ⟨h8, hk, hnx, hlk, _⟩ := put_ok hput hhw (by omega)
  have h4 : hw < 4 := by omega
  obtain ⟨tv, htv, _, hpos⟩ := tab_next h4 hk er
  have htv2 := hpos hnx
  have i1 : (0 : Int) ≤ (t : Int) := by omega
  have i2 : (t : Int) < 8 := by omega
  have i3 : (0 : Int) ≤ (k : Int) := by omega
  have i4 : (k : Int) < 13 := by omega
  have j1 : (0 : Int) ≤ (hw : Int) := by omega
  have j2 : (hw : Int) < 4 := by omega
  obtain ⟨ms, hM, hMO⟩ := hI.mem
  have HI := Lib.hid hI
  have HMG2 := Lib.hid (fun i x (hx : ms i = some x) => (hM.maps i x hx).2.lt)
  have HE := Lib.hid he
  have HHW := Lib.hid hhw
  have HNX := Lib.hid htv2
  have HN0 := Lib.hid hnx
  have HNXE := Lib.hid (show tv - 1 = nextI (s.t t).how (Ev.mk (t : Int) (k : Int) a x o er).kind (Ev.mk (t : Int) (k : Int) a x o er).err by rw [hhw]; exact htv2)
  have HLK := Lib.hid hlk
  have HTV := Lib.hid htv
  have HMO := Lib.hid hMO
  have HB := Lib.hid (((Below.refl w.heap.size w).alloc (Nat.le_refl _) (.cells #[.int .i64 t, .int .i64 k, .int .u64 a, .int .u64 x, .bool o, .int .i64 er] 97)).mono hbase)
  have HX := Lib.hid (BoxE.made w ⟨(t : Int), (k : Int), a, x, o, er⟩)
  have hM1 := hM.alloc (.cells #[.int .i64 t, .int .i64 k, .int .u64 a, .int .u64 x, .bool o, .int .i64 er] 97)
  rw [lF_fld] at hM1
  have HM := Lib.hid hM1
  have v1 : 1 ≤ tv := by omega
  have v2 : tv ≤ 4 := by have := next_le hw k er; omega
  clear hput hF hF1 hF2 hhr hhw hlk hM hM1 hMO hI he htv htv2 hpos hnx
  show Calls Try.prog 118 #[.pointer (some ⟨b, 0, none⟩), .int .i64 p, .agg #[.int .i64 t, .int .i64 k, .int .u64 a, .int .u64 x, .bool o, .int .i64 er]] w _
  go_enter Try.func118, Try.ntmps118
  have hgb : b ≠ w.heap.size := by have := HI.out.blk.lt.2; omega
  obtain ⟨hg, c0, c1, c2, c3, c4, c5⟩ := HX.out
  simp only at c0 c1 c2 c3 c4 c5
  go_wp2
  go_quiet (fail)
  have hbel : Below w.heap.size w ((w.alloc (.cells #[.int .i64 t, .int .i64 k, .int .u64 a, .int .u64 x, .bool o, .int .i64 er] 97)).drewN nq) := bdrewN ((Below.refl w.heap.size w).alloc (Nat.le_refl _) _) nq
  have hMW := HM.out.still (w' := (w.alloc (.cells #[.int .i64 t, .int .i64 k, .int .u64 a, .int .u64 x, .bool o, .int .i64 er] 97)).drewN nq) (fun _ _ => rfl)
  have hXW := HX.out.below (w' := (w.alloc (.cells #[.int .i64 t, .int .i64 k, .int .u64 a, .int .u64 x, .bool o, .int .i64 er] 97)).drewN nq) (bdrewN (Below.refl _ _) nq)
  have hBW := bdrewN HB.out nq
  have hIW := HI.out.kept hbel
  have HLT := Lib.hid (fun q hq => (hIW.trs.lt q hq).1 : ∀ q, (Value.slice At nt ct).ownBlock = some q → base ≤ q)
  have hgl : w.heap.size < ((w.alloc (.cells #[.int .i64 t, .int .i64 k, .int .u64 a, .int .u64 x, .bool o, .int .i64 er] 97)).drewN nq).heap.size := hXW.lt
  have HTG := Lib.hid (fun q hq => (HI.out.trs.lt q hq).2 : ∀ q, (Value.slice At nt ct).ownBlock = some q → q < w.heap.size)
  have HMG := Lib.hid (fun i x (hx : ms i = some x) => (hMW.maps i x hx).2.lt)
  clear HM HX HB hbel c0 c1 c2 c3 c4 c5 hg
  generalize ((w.alloc (.cells #[.int .i64 t, .int .i64 k, .int .u64 a, .int .u64 x, .bool o, .int .i64 er] 97)).drewN nq) = W at *
  obtain ⟨_, c0, c1, c2, c3, c4, c5⟩ := id hXW
  simp only at c0 c1 c2 c3 c4 c5
  generalize w.heap.size = g at *
  have hC := hIW.cells
  have d0 := hC.how t h8
  rw [HHW.out] at d0
  have f0 := (hIW.blk.cell (j := 52 + t * 4) (by omega)).2
  have d1 := hC.snap t h8
  have f1 := (hIW.blk.cell (j := 52 + t * 4 + 1) (by omega)).2
  have d2 := hC.map t h8
  have f2 := (hIW.blk.cell (j := 52 + t * 4 + 2) (by omega)).2
  have d3 := hC.try_ t h8
  have f3 := (hIW.blk.cell (j := 52 + t * 4 + 3) (by omega)).2
  have d4 := hC.num
  have f4 := (hIW.blk.cell (j := 84) (by omega)).2
  have d5 := hC.hd
  have f5 := (hIW.blk.cell (j := 85) (by omega)).2
  have d6 := hC.trs
  have f6 := (hIW.blk.cell (j := 86) (by omega)).2
  have dt := hC.tab (hw * 13 + k) (by omega)
  rw [HTV.out] at dt
  have HMW := Lib.hid hMW
  have HIW := Lib.hid hIW
  have HXW := Lib.hid hXW
  have HBW := Lib.hid hBW
  have hzW : base ≤ W.heap.size := Nat.le_of_lt (Nat.lt_of_le_of_lt hbase hgl)
  clear hC hIW hMW hBW hXW
  obtain ⟨rfl, rfl⟩ : k = 3 ∧ hw = 1 := by have := HQ.out; omega
  clear HQ
  simp only [Nat.zero_mul, Nat.zero_add, Nat.one_mul, Nat.reduceMul, Nat.reduceAdd] at dt
  obtain ⟨hta, htb⟩ := (HIW.out.maps t h8 (by rw [HHW.out]; exact .inl rfl)).2
  obtain ⟨r, hr⟩ := Int.eq_ofNat_of_zero_le hta
  have hrn : r < nt := by omega
  obtain ⟨gt, cap', hv, _, hgt⟩ := HIW.out.trs.form (by omega)
  injection hv with hv1 _ hv3
  subst hv1 hv3
  have hbg : b ≠ gt := fun e => HMW.out.trs_ne (congrArg some e.symm)
  have hbg2 : gt ≠ b := fun e => hbg e.symm
  have hgtg : gt < g := HTG.out gt rfl
  have hgt2 : gt ≠ g := by omega
  have hgt3 : g ≠ gt := by omega
  have hbg3 : g ≠ b := fun e => hgb e.symm
  have r1 : (0 : Int) ≤ (r : Int) := by omega
  have r2 : (r : Int) < (nt : Int) := by omega
  have hbb : base ≤ b := HI.out.blk.lt.1
  have hbt : base ≤ gt := HLT.out gt rfl
  rw [hr] at d3
  go_wp2
  go_quiet (fail)
  have hIV := HIW.out.kept (bdrewN (Below.refl _ _) nq)
  have hMV := HMW.out.still (w' := W.drewN nq) (fun _ _ => rfl)
  have hXV := HXW.out.below (bdrewN (Below.refl _ _) nq)
  have hBV := bdrewN HBW.out nq
  have hzV : base ≤ (W.drewN nq).heap.size := hzW
  clear c0 c1 c2 c3 c4 c5 d0 d1 d2 d3 d4 d5 d6 f0 f1 f2 f3 f4 f5 f6 HIW HMW HXW HBW hzW hgl hgt
  have dtV : (W.drewN nq).cell? ⟨b, _, none⟩ = _ := dt
  clear dt
  generalize W.drewN nq = V at *
  obtain ⟨_, c0, c1, c2, c3, c4, c5⟩ := id hXV
  simp only at c0 c1 c2 c3 c4 c5
  have hC := hIV.cells
  have d0 := hC.how t h8
  have f0 := (hIV.blk.cell (j := 52 + t * 4) (by omega)).2
  have d1 := hC.snap t h8
  have f1 := (hIV.blk.cell (j := 52 + t * 4 + 1) (by omega)).2
  have d2 := hC.map t h8
  have f2 := (hIV.blk.cell (j := 52 + t * 4 + 2) (by omega)).2
  have d3 := hC.try_ t h8
  have f3 := (hIV.blk.cell (j := 52 + t * 4 + 3) (by omega)).2
  have d4 := hC.num
  have f4 := (hIV.blk.cell (j := 84) (by omega)).2
  have d5 := hC.hd
  have f5 := (hIV.blk.cell (j := 85) (by omega)).2
  have d6 := hC.trs
  have f6 := (hIV.blk.cell (j := 86) (by omega)).2
  rw [HHW.out] at d0
  rw [hr] at d3
  obtain ⟨⟨y2, e2, hy2⟩, g2⟩ := hMV.attempt_at (q := r * 7 + 2) (by omega)
  rw [if_neg (by omega)] at hy2
  obtain ⟨y2, rfl, z2⟩ := hy2
  clear z2
  obtain ⟨⟨y3, e3, hy3⟩, g3⟩ := hMV.attempt_at (q := r * 7 + 3) (by omega)
  rw [if_pos (by omega)] at hy3
  obtain ⟨y3, rfl⟩ := hy3
  obtain ⟨⟨y4, e4, hy4⟩, g4⟩ := hMV.attempt_at (q := r * 7 + 4) (by omega)
  rw [if_neg (by omega)] at hy4
  obtain ⟨y4, rfl, z4⟩ := hy4
  clear z4
  obtain ⟨⟨y5, e5, hy5⟩, g5⟩ := hMV.attempt_at (q := r * 7 + 5) (by omega)
  rw [if_neg (by omega)] at hy5
  obtain ⟨y5, rfl, z5⟩ := hy5
  have za5 := (z5 (by omega)).1
  have zb5 := (z5 (by omega)).2
  clear z5
  obtain ⟨⟨y6, e6, hy6⟩, g6⟩ := hMV.attempt_at (q := r * 7 + 6) (by omega)
  rw [if_neg (by omega)] at hy6
  obtain ⟨y6, rfl, z6⟩ := hy6
  have za6 := (z6 (by omega)).1
  have zb6 := (z6 (by omega)).2
  clear z6
  have HMV := Lib.hid hMV
  have HBV := Lib.hid hBV
  have HIV := Lib.hid hIV
  have HXV := Lib.hid hXV
  clear hC hIV hMV hXV hBV
  obtain ⟨g', n', D', a1, a2, a3, a4⟩ := HMO.out t h8 (by rw [HHW.out]; exact .inl rfl)
  rw [a2] at d2
  obtain ⟨vs1, hM1⟩ := LMem.attempt HMV.out (r * 7 + 2) (.int .i64 p) (by rw [if_neg (by omega)]; exact ⟨_, rfl, fun h => by omega⟩)
  have hg1 := grown_set V ⟨gt, r * 7 + 2, none⟩ (.int .i64 p)
  obtain ⟨Wf, hrun, hMf, hgr⟩ := LMem.filled hM1.drew a1 (by unfold maxLen; omega) HE.out.1 HE.out.2
  have hgb' : g' ≠ b := HMV.out.map_ne a1
  have hgg' : g' < g := HMG2.out t _ a1
  have hgt' : gt ≠ g' := fun e => HMV.out.map_trs a1 (congrArg some e)
  have qc1 : Wf.cell? ⟨g, 1, none⟩ = some (.int .i64 3) := hgr.cell (hg1.cell c1 (by simp; omega)) (by simp; omega)
  have qd0 : Wf.cell? ⟨b, 52 + t * 4, none⟩ = some (.int .i64 1) := hgr.cell (hg1.cell d0 (by simp; omega)) (by simp; omega)
  have qdt : Wf.cell? ⟨b, 16, none⟩ = some (.int .i64 tv) := hgr.cell (hg1.cell dtV (by simp; omega)) (by simp; omega)
  have qf0 : Wf.frozen? ⟨b, 52 + t * 4, none⟩ = false := (hMf.blk.cell (j := 52 + t * 4) (by omega)).2
  obtain ⟨⟨yw, ew, hyw⟩, gw⟩ := hMf.attempt_at (q := r * 7 + 6) (by omega)
  rw [if_neg (by omega)] at hyw
  obtain ⟨yw, rfl, zw⟩ := hyw
  have zwa := (zw (by omega)).1
  have zwb := (zw (by omega)).2
  clear zw
  have HMf := Lib.hid hMf
  have HG1 := Lib.hid hg1
  have HGR := Lib.hid hgr
  have A1 := Lib.hid a1
  have A2 := Lib.hid a2
  have A4 := Lib.hid a4
  clear hMf hg1 hgr a1 a2 a4 hM1 e6 g6 za6 zb6
  go_wp2
  go_region
  go_wp2
  go_region
  go_wp2
  go_end0
  obtain ⟨vs2, hM2⟩ := LMem.attempt (HMf.out.more (Nat.le_succ m)) (r * 7 + 6) (.int .i64 (yw + 1)) (by rw [if_neg (by omega)]; exact ⟨_, rfl, fun _ => by omega⟩)
  have hM3 := LMem.setHow hM2 h8 (.int .i64 (tv - 1))
  have hv0 : tv - 1 = 1 := by rw [HNX.out]; simp [nextI]
  have hBF := ((Below.grown (HBV.out.setCell (p := ⟨gt, r * 7 + 2, none⟩) hbt (.int .i64 p)).drew HGR.out (by simpa using hzV) (fun q hq => by injection hq with hq; rw [← hq]; exact (HMV.out.maps t _ A1.out).1)).setCell (p := ⟨gt, r * 7 + 6, none⟩) hbt (.int .i64 (yw + 1))).setCell (p := ⟨b, 52 + t * 4, none⟩) hbb (.int .i64 (tv - 1))
  exact ⟨rfl, hBF.drew, mp, tr, hd, some ⟨gt, 0, none⟩, ct, nt, vs2, LMem.fin (t := t) (nx := tv - 1) HI.out (by rw [adv_fld s _ (t := t) (by simp) HNXE.out, if_neg (by simp), if_neg (by simp)]; exact hM3.drew) (by simp) HE.out (by omega) HNXE.out HMO.out (fun i hi => ⟨rfl, by simp [upm, hi], rfl⟩) ⟨Nat.le_refl _, Nat.le_succ_of_le HI.out.few⟩ (fun _ => ⟨g', n' + 1, D'.put (lu a) (.lit (lu x)), by simp only [upm, if_true], A2.out, by omega, by simpa [advT] using A4.out.put a x⟩) (fun _ => (HI.out.maps t h8 (by rw [HHW.out]; exact .inl rfl)).2) (hold_same (t := t) HI.out (by simp) HNXE.out (by omega) (by rw [HHW.out]; decide))⟩
theorem take_any (base b m : Nat) (p : Int) (s : SS) (mp : Nat → Option Nat) (tr : Nat → Int) (hd : Int) (At : Option Addr) (ct nt : Nat) (vs : List Value) (e : Ev) (w : World) (he : e.Wd) (hm : m ≤ 1099511627776) (hI : LInv w base b m s mp tr hd At ct nt vs) (hput : putE s e = 0) (hbase : base ≤ w.heap.size) :
    Calls Try.prog 118 #[.pointer (some ⟨b, 0, none⟩), .int .i64 p, evV e] w fun e' w' => e' = .returned (.tuple #[]) ∧ Below base w w' ∧ ∃ mp' tr' hd' At' ct' nt' vs', LInv w' base b (m + 1) (adv s e) mp' tr' hd' At' ct' nt' vs' := by
  have hF : Fm e := by
    unfold putE at hput
    split at hput
    · cases hput
    · rename_i h; exact Classical.not_not.1 h
  obtain ⟨t, ht⟩ := Int.eq_ofNat_of_zero_le hF.1.1
  obtain ⟨k, hk⟩ := Int.eq_ofNat_of_zero_le (show 0 ≤ e.kind by have := hF.2.1; omega)
  have h8 : t < 8 := by have := hF.1; omega
  have hhr := hI.how t h8
  obtain ⟨hw, hhw⟩ := Int.eq_ofNat_of_zero_le hhr.1
  have htt : e.th.toNat = t := by omega
  have hq : ∀ {x y : Int}, e.kind = x → (hw : Int) = y → e.kind = x ∧ (s.t e.th.toNat).how = y := fun h1 h2 => ⟨h1, by rw [htt, hhw]; exact h2⟩
  have hcl : (k = 1 ∧ hw = 0) ∨ (k = 2 ∧ hw = 1) ∨ (k = 3 ∧ hw = 1) ∨ (k = 4 ∧ hw = 1) ∨ (k = 5 ∧ hw = 1) ∨ (k = 6 ∧ hw = 1) ∨ (k = 6 ∧ hw = 2) ∨ ((k = 7 ∨ k = 8 ∨ k = 9) ∧ hw = 1) ∨ ((k = 9 ∨ k = 10 ∨ k = 11 ∨ k = 12) ∧ hw = 0) := by
    obtain ⟨et, ek, ea, ex, eo, er⟩ := e
    simp only at ht hk
    subst ht hk
    exact (put_ok hput hhw (by omega)).2.2.2.2
  rcases hcl with ⟨h1, h2⟩ | ⟨h1, h2⟩ | ⟨h1, h2⟩ | ⟨h1, h2⟩ | ⟨h1, h2⟩ | ⟨h1, h2⟩ | ⟨h1, h2⟩ | ⟨h1 | h1 | h1, h2⟩ | ⟨h1, h2⟩
  · exact take_1 base b m p s mp tr hd At ct nt vs e w he hm hI hput (hq (by omega) (by omega)) hbase
  · exact take_2 base b m p s mp tr hd At ct nt vs e w he hm hI hput (hq (by omega) (by omega)) hbase
  · exact take_3 base b m p s mp tr hd At ct nt vs e w he hm hI hput (hq (by omega) (by omega)) hbase
  · exact take_4 base b m p s mp tr hd At ct nt vs e w he hI hput (hq (by omega) (by omega)) hbase
  · exact take_5 base b m p s mp tr hd At ct nt vs e w he hI hput (hq (by omega) (by omega)) hbase
  · exact take_6 base b m p s mp tr hd At ct nt vs e w he hI hput (hq (by omega) (by omega)) hbase
  · exact take_6h base b m p s mp tr hd At ct nt vs e w he hI hput (hq (by omega) (by omega)) hbase
  · exact take_7 base b m p s mp tr hd At ct nt vs e w he hI hput (hq (by omega) (by omega)) hbase
  · exact take_8 base b m p s mp tr hd At ct nt vs e w he hI hput (hq (by omega) (by omega)) hbase
  · exact take_9 base b m p s mp tr hd At ct nt vs e w he hI hput (hq (by omega) (by omega)) hbase
  · exact take_0 base b m p s mp tr hd At ct nt vs e w he hI hput ⟨by omega, by rw [htt, hhw]; omega⟩ hbase
end Go.Proofs.Ytjifpjfinffamaa
end
section
namespace Go.Proofs.Ytjifpjfinffamaa
open Go.RowKit Go.Maps
def lookCells : List Value := tabL ++ (List.range 8).flatMap (fun _ => [.int .i64 0, .int .u64 0, .map none, .int .i64 0]) ++ [.int .u64 0, .int .i64 (-1), .slice none 0 0]
theorem look0 (w : World) : LInv (w.alloc (.cells lookCells.toArray 193)) w.heap.size w.heap.size 0 ss0 (fun _ => none) (fun _ => 0) (-1) none 0 0 [] := by
  have hact : ∀ i, ¬ Act_ (ss0.t i).how := fun i h => by rcases h with h | h <;> cases h
  refine ⟨blk_new w lookCells.toArray 193 87 _ ?_, World.ownsRow_nil _ _ _ _, fun q x hx => by simp at hx, fun i _ ha => absurd ha (hact i), fun i j _ _ _ ha => absurd ha (hact i), .inl ⟨rfl, fun i _ h => by cases h⟩, fun i _ => ⟨Int.le_refl _, (show (0 : Int) < 18446744073709551616 by decide)⟩, fun i _ => ⟨Int.le_refl _, (show (0 : Int) < 4 by decide)⟩, Nat.le_refl _⟩
  rfl
theorem lookArr : (List.foldl (fun cs x => cs.setIfInBounds x.snd x.fst) Try.zeroCells193 tabL.zipIdx).setIfInBounds 85 (Value.int IntKind.i64 (-1)) = lookCells.toArray := by kernel_rfl
set_option linter.unusedSimpArgs false in
set_option maxRecDepth 100000 in
set_option maxHeartbeats 6400000 in
theorem goOver_any (A : Option Addr) (cap : Nat) (l : List Ev) (w : World) (hl : l.length ≤ 1099511627776) (hc : EvR w w.heap.size A l) :
    Calls Try.prog 90 #[.slice A l.length cap] w fun e w' => ∃ P, e = .returned (.tuple #[.pointer P, oddV (chk ss0 l 0)]) ∧ Below w.heap.size w w' := by
  have HC := Lib.hid hc
  clear hc
  obtain ⟨R, hR⟩ : ∃ R, R = chk ss0 l 0 := ⟨_, rfl⟩
  have HR := Lib.hid hR
  rw [← hR]
  clear hR
  have hO : Blk (w.alloc (.cells #[.int .i64 0, .int .i64 0] 99)) w.heap.size 99 w.heap.size 2 (fun _ => .int .i64 0) := blk_new w #[.int .i64 0, .int .i64 0] 99 2 _ rfl
  have HO := Lib.hid hO
  have HB := Lib.hid ((Below.refl w.heap.size w).alloc (Nat.le_refl _) (.cells #[.int .i64 0, .int .i64 0] 99))
  clear hO
  go_enter Try.func90, Try.ntmps90
  go_wp2_with (go_at_call 116; refine halt_ ?_)
  refine Halt_.go ?_
  refine (table_any _).mono ?_
  rintro e w1 ⟨rfl, hb⟩
  have HO1 := Lib.hid (HO.out.below (by simp) hb)
  have HB1 := Lib.hid (HB.out.trans (hb.mono (by simp)))
  have hLI := look0 w1
  rw [← lookArr] at hLI
  have hb1 : w.heap.size < w1.heap.size := HO1.out.lt.2
  have HLI := Lib.hid hLI
  have HO2 := Lib.hid (HO1.out.kept (w' := w1.alloc (.cells ((List.foldl (fun cs x => cs.setIfInBounds x.snd x.fst) Try.zeroCells193 tabL.zipIdx).setIfInBounds 85 (Value.int IntKind.i64 (-1))) 193)) (Below.heap_alloc _ _ _ hb1))
  have HB2 := Lib.hid (HB1.out.alloc (Nat.le_of_lt hb1) (.cells ((List.foldl (fun cs x => cs.setIfInBounds x.snd x.fst) Try.zeroCells193 tabL.zipIdx).setIfInBounds 85 (Value.int IntKind.i64 (-1))) 193))
  clear hb hLI HO HB HO1 HB1
  obtain ⟨b, hbE⟩ : ∃ b, b = w1.heap.size := ⟨_, rfl⟩
  have HBE := Lib.hid hbE
  go_wp2
  rw [← hbE]
  rw [← hbE] at hb1 HLI
  clear hbE
  generalize w1.alloc (.cells ((List.foldl (fun cs x => cs.setIfInBounds x.snd x.fst) Try.zeroCells193 tabL.zipIdx).setIfInBounds 85 (Value.int IntKind.i64 (-1))) 193) = w2 at *
  go_loopw [13] (fun i wr => ∃ (p : Nat) (s : SS) (mp : Nat → Option Nat) (tr : Nat → Int) (hd : Int) (At : Option Addr) (ct nt : Nat) (vs : List Value), p ≤ l.length ∧ i = .int .i64 p ∧ Hid (LInv wr b b p s mp tr hd At ct nt vs) ∧ Hid (R = chk s (l.drop p) p) ∧ Hid (Below w.heap.size w wr) ∧ Hid (Blk wr w.heap.size 99 w.heap.size 2 (fun _ => .int .i64 0))) (fun i _ => l.length - (intOf i).toNat)
  case atStart => exact ⟨0, ss0, _, _, _, _, _, _, _, Nat.zero_le _, rfl, HLI, HR, HB2, HO2⟩
  case round =>
    obtain ⟨p, s, mp, tr, hd, At, ct, nt, vs, hp, rfl, HI, HX, HBL, HO3⟩ := hrel
    by_cases hlt : p < l.length
    · obtain ⟨eb, eo, e, hA, heb, he, hwd, e0, e1, e2, e3, e4, e5⟩ := HC.out.at_ HBL.out hlt
      subst hA
      have hst := HX.out
      rw [chk_step he.out] at hst
      have i1 : (0 : Int) ≤ (p : Int) := by omega
      have i2 : (p : Int) < (l.length : Int) := by omega
      have hbw : b < wr.heap.size := HI.out.blk.lt.2
      obtain ⟨t, k, a, x, o, er⟩ := e
      simp only at e0 e1 e2 e3 e4 e5
      have hal : Below wr.heap.size wr (wr.alloc (.cells #[.int .i64 t, .int .i64 k, .int .u64 a, .int .u64 x, .bool o, .int .i64 er] 97)) := (Below.refl _ _).alloc (Nat.le_refl _) _
      have HI2 := Lib.hid (HI.out.kept hal)
      have hwr := wrong_any b b p s mp tr hd At ct nt vs ⟨t, k, a, x, o, er⟩ _ hwd HI2.out
      have HW := Lib.hid hwr
      have HBL2 := Lib.hid (HBL.out.alloc HBL.out.size (.cells #[.int .i64 t, .int .i64 k, .int .u64 a, .int .u64 x, .bool o, .int .i64 er] 97))
      have HO4 := Lib.hid (HO3.out.kept (Below.heap_alloc wr (.cells #[.int .i64 t, .int .i64 k, .int .u64 a, .int .u64 x, .bool o, .int .i64 er] 97) _ HO3.out.lt.2))
      have HX4 := Lib.hid (BoxE.made wr ⟨t, k, a, x, o, er⟩)
      have HST := Lib.hid hst
      have HWD := Lib.hid hwd
      generalize hpe : putE s ⟨t, k, a, x, o, er⟩ = pe at *
      have HPE := Lib.hid hpe
      clear hpe
      clear hst hwr he HX hwd HLI HR HB2 HO2 hal HI HBL HO3
      go_wp2_with (go_at_call 117; refine halt_ ?_)
      refine Halt_.go ?_
      refine HW.out.mono ?_
      rintro e' w3 ⟨rfl, hb3⟩
      have HI3 := Lib.hid (HI2.out.kept hb3)
      have HX3 := Lib.hid (HX4.out.below hb3)
      have HBL3 := Lib.hid (HBL2.out.trans (hb3.mono HBL2.out.size))
      have HO5 := Lib.hid (HO4.out.below HO4.out.lt.2 hb3)
      have hb3s : b < w3.heap.size := HI3.out.blk.lt.2
      clear hb3 HI2 HX4 HBL2 HO4 HW
      by_cases h0 : pe = 0
      · subst h0
        have htk := take_any b b p (p : Int) s mp tr hd At ct nt vs ⟨t, k, a, x, o, er⟩ w3 HWD.out (by omega) HI3.out HPE.out (Nat.le_of_lt hb3s)
        have HTK := Lib.hid htk
        obtain ⟨_, c0, c1, c2, c3, c4, c5⟩ := HX3.out
        simp only at c0 c1 c2 c3 c4 c5
        clear htk
        go_wp2_with (go_at_call 118; refine halt_ ?_)
        refine Halt_.go ?_
        refine HTK.out.mono ?_
        rintro e'' w4 ⟨rfl, hb4, mp', tr', hd', At', ct', nt', vs', hI4⟩
        have HI4 := Lib.hid hI4
        have HBL4 := Lib.hid (HBL3.out.trans (hb4.mono (Nat.le_of_lt hb1)))
        have HO6 := Lib.hid (HO5.out.below hb1 hb4)
        have HX5 := Lib.hid (show R = chk (adv s ⟨t, k, a, x, o, er⟩) (l.drop (p + 1)) (p + 1) by rw [HST.out]; simp)
        clear hb4 hI4 HTK HI3 HX3 HBL3 HO5 c0 c1 c2 c3 c4 c5
        go_wp2
        go_roundw
        case rel => exact ⟨p + 1, _, mp', tr', hd', At', ct', nt', vs', hlt, by go_num, HI4, HX5, HBL4, HO6⟩
        case measure => simp [intOf]; omega
      · have hR : R = ((p : Int), pe) := by rw [HST.out, if_neg h0]
        subst hR
        have e7 : (pe != 0) = true := by simpa using h0
        have hq1 := (HO5.out.cell (j := 0) (by omega)).2
        have hq2 := (HO5.out.cell (j := 0) (by omega)).1
        have hq3 := (HO5.out.cell (j := 1) (by omega)).2
        have hq4 := (HO5.out.cell (j := 1) (by omega)).1
        have hf := (HO5.out.set 0 (.int .i64 (p : Int))).set 1 (.int .i64 pe)
        have hc0 := (hf.cell (j := 0) (by omega)).1
        have hc1 := (hf.cell (j := 1) (by omega)).1
        simp only [if_true, if_false, Nat.reduceEqDiff, Nat.zero_ne_one, Nat.one_ne_zero] at hc0 hc1
        have hBF := ((HBL3.out.setCell (p := ⟨w.heap.size, 0, none⟩) (Nat.le_refl _) (.int .i64 (p : Int))).setCell (p := ⟨w.heap.size, 1, none⟩) (Nat.le_refl _) (.int .i64 pe))
        have HC0 := Lib.hid hc0
        have HC1 := Lib.hid hc1
        have HBF := Lib.hid hBF
        clear hf hc0 hc1 hBF HST HI3 HX3 HPE h0
        go_wp2
        refine bodyPost_ret (v := .tuple #[.pointer none, oddV ((p : Int), pe)]) (by simp [results, Try.results90, go_sem, HC0.out, HC1.out, oddV]) rfl ?_
        exact ⟨_, rfl, HBF.out⟩
    · obtain rfl : p = l.length := by omega
      have hx := HX.out
      rw [chk_end] at hx
      subst hx
      have hq1 := (HO3.out.cell (j := 0) (by omega)).2
      have hq2 := (HO3.out.cell (j := 0) (by omega)).1
      have hq3 := (HO3.out.cell (j := 1) (by omega)).2
      have hq4 := (HO3.out.cell (j := 1) (by omega)).1
      have hf := (HO3.out.set 0 (.int .i64 (-1))).set 1 (.int .i64 0)
      have hc0 := (hf.cell (j := 0) (by omega)).1
      have hc1 := (hf.cell (j := 1) (by omega)).1
      simp only [if_true, if_false, Nat.reduceEqDiff, Nat.zero_ne_one, Nat.one_ne_zero] at hc0 hc1
      have hBF := ((HBL.out.setCell (p := ⟨w.heap.size, 0, none⟩) (Nat.le_refl _) (.int .i64 (-1))).setCell (p := ⟨w.heap.size, 1, none⟩) (Nat.le_refl _) (.int .i64 0))
      have HC0 := Lib.hid hc0
      have HC1 := Lib.hid hc1
      have HBF := Lib.hid hBF
      clear hf hc0 hc1 hBF HX HI
      go_wp2
      refine bodyPost_ret (v := .tuple #[.pointer (some ⟨b, 0, none⟩), oddV ((-1), 0)]) (by simp [results, Try.results90, go_sem, HC0.out, HC1.out, oddV]) rfl ?_
      exact ⟨_, rfl, HBF.out⟩
set_option linter.unusedSimpArgs false in
set_option maxRecDepth 100000 in
set_option maxHeartbeats 3200000 in
theorem evCheck_any (A : Option Addr) (cap : Nat) (l : List Ev) (w : World) (hl : l.length ≤ 1099511627776) (hc : EvR w w.heap.size A l) :
    Calls Try.prog 59 #[.slice A l.length cap] w fun e w' => e = .returned (oddV (chk ss0 l 0)) ∧ Below w.heap.size w w' := by
  have hc1 := (hc.below ((Below.refl w.heap.size w).alloc (Nat.le_refl _) (.cells #[.int .i64 0, .int .i64 0] 99))).more (show w.heap.size ≤ (w.alloc (.cells #[.int .i64 0, .int .i64 0] 99)).heap.size by simp)
  have HG := Lib.hid (goOver_any A cap l (w.alloc (.cells #[.int .i64 0, .int .i64 0] 99)) hl hc1)
  have hO : Blk (w.alloc (.cells #[.int .i64 0, .int .i64 0] 99)) w.heap.size 99 w.heap.size 2 (fun _ => .int .i64 0) := blk_new w #[.int .i64 0, .int .i64 0] 99 2 _ rfl
  have HO := Lib.hid hO
  have HB := Lib.hid ((Below.refl w.heap.size w).alloc (Nat.le_refl _) (.cells #[.int .i64 0, .int .i64 0] 99))
  clear hc hc1 hO
  generalize chk ss0 l 0 = R at *
  obtain ⟨x, y⟩ := R
  go_enter Try.func59, Try.ntmps59
  go_wp2_with (go_at_call 90; refine halt_ ?_)
  refine Halt_.go ?_
  refine HG.out.mono ?_
  rintro e w1 ⟨P, rfl, hb⟩
  have HO1 := Lib.hid (HO.out.below (by simp) hb)
  have HB1 := Lib.hid (HB.out.trans (hb.mono (by simp)))
  clear hb HG HO HB
  unfold oddV
  have hq1 := (HO1.out.cell (j := 0) (by omega)).2
  have hq2 := (HO1.out.cell (j := 0) (by omega)).1
  have hq3 := (HO1.out.cell (j := 1) (by omega)).2
  have hq4 := (HO1.out.cell (j := 1) (by omega)).1
  have hlt : w.heap.size < w1.heap.size := HO1.out.lt.2
  have hne : ¬ w.heap.size = w1.heap.size := by omega
  have hf := ((HO1.out.set 0 (.int .i64 x)).set 1 (.int .i64 y)).kept (Below.heap_alloc ((w1.setCell ⟨w.heap.size, 0, none⟩ (.int .i64 x)).setCell ⟨w.heap.size, 1, none⟩ (.int .i64 y)) (.cells #[.int .i64 x, .int .i64 y] 99) w.heap.size (by simp; omega))
  have hc0 := (hf.cell (j := 0) (by omega)).1
  have hc1 := (hf.cell (j := 1) (by omega)).1
  simp only [if_true, if_false, Nat.reduceEqDiff, Nat.zero_ne_one, Nat.one_ne_zero] at hc0 hc1
  have hBF := ((HB1.out.setCell (p := ⟨w.heap.size, 0, none⟩) (Nat.le_refl _) (.int .i64 x)).setCell (p := ⟨w.heap.size, 1, none⟩) (Nat.le_refl _) (.int .i64 y)).alloc (by simp; omega) (.cells #[.int .i64 x, .int .i64 y] 99)
  have HC0 := Lib.hid hc0
  have HC1 := Lib.hid hc1
  have HBF := Lib.hid hBF
  clear hf hc0 hc1 hBF
  go_wp2
  have hr0 := HC0.out
  have hr1 := HC1.out
  refine bodyPost_ret (v := oddV (x, y)) (by simp only [results, Try.results59]; simp [go_sem, oddV] at hr0 hr1 ⊢; simp [hr0, hr1]) rfl ?_
  exact ⟨rfl, HBF.out⟩
end Go.Proofs.Ytjifpjfinffamaa
end
section
namespace Go.Proofs.Ytjifpjfinffamaa
open Go.RowKit
theorem chk_cases : ∀ (r : List Ev) (i : Nat) (s : SS), chk s r i = (-1, 0) ∨ (chk s r i).2 ≠ 0
  | [], _, _ => .inl rfl
  | e :: r, i, s => by
    unfold chk
    split
    · exact chk_cases r (i + 1) _
    · rename_i h
      exact .inr h
theorem chk_fm : ∀ (r : List Ev) (i : Nat) (s : SS), chk s r i = (-1, 0) → ∀ e ∈ r, 0 ≤ e.th ∧ e.th < 8
  | [], _, _, _, e, he => by cases he
  | a :: r, i, s, h, e, he => by
    unfold chk at h
    split at h
    · rename_i hp
      rcases List.mem_cons.1 he with rfl | he
      · exact (putE_ok hp).1.1
      · exact chk_fm r (i + 1) _ h e he
    · injection h with h1 h2
      omega
def wBl (l : List Ev) : List Bl := (cutF cs0 l 0).bl.map finW
def wLk (l : List Ev) : List Nat := (cutF cs0 l 0).lk
theorem wBl_len (l : List Ev) : (wBl l).length = (cutF cs0 l 0).bl.length := by simp [wBl]
theorem wLk_len (l : List Ev) : (wLk l).length = (wBl l).length := by rw [wBl_len]; exact (cutF_own l 0 cs0 COwn.start).len
theorem wBl_le (l : List Ev) : (wBl l).length ≤ l.length := by
  rw [wBl_len]
  have := (cutF_own l 0 cs0 COwn.start).le
  omega
theorem wLk_part (l : List Ev) : PartL (wLk l) (wBl l).length := by
  rw [← wLk_len]
  exact PartL.of (cutF_nodup l 0 cs0 List.nodup_nil (fun x hx => by cases hx))
theorem cut_at (A : Option Addr) (cap : Nat) (l : List Ev) (w : World) (hl : l.length ≤ 1099511627776) (hk : chk ss0 l 0 = (-1, 0)) (hc : EvR w w.heap.size A l) :
    Calls Try.prog 60 #[.slice A l.length cap] w fun e w' => ∃ Ab cb hd Al cl, e = .returned (.tuple #[.slice Ab (wBl l).length cb, .slice Al (wBl l).length cl]) ∧ BLk w' w.heap.size Ab cb (wBl l) hd Al cl (wLk l) ∧ Below w.heap.size w w' := by
  refine (cut_any A cap l w hl (chk_fm l 0 ss0 hk) hc).mono ?_
  rintro e w' ⟨Ab, cb, hd, Al, cl, rfl, h1, h2⟩
  exact ⟨Ab, cb, hd, Al, cl, by rw [wBl_len], h1, h2⟩
set_option maxRecDepth 100000 in
set_option maxHeartbeats 3200000 in
theorem blocks_any (A : Option Addr) (cap : Nat) (l : List Ev) (w : World) (hl : l.length ≤ 1099511627776) (hc : EvR w w.heap.size A l) :
    Calls Try.prog 15 #[.slice A l.length cap] w fun e w' => ((chk ss0 l 0).2 ≠ 0 ∧ e = .returned (.tuple #[.slice none 0 0, .int .i64 (chk ss0 l 0).2]) ∨
      chk ss0 l 0 = (-1, 0) ∧ ∃ Ab cb hd, e = .returned (.tuple #[.slice Ab (wBl l).length cb, .int .i64 0]) ∧ HB w' w.heap.size Ab (wBl l).length cb (wBl l) hd) ∧ Below w.heap.size w w' := by
  have HE := Lib.hid (evCheck_any A cap l w hl hc)
  have HCUT := Lib.hid (fun W (hk : chk ss0 l 0 = (-1, 0)) (h : EvR W W.heap.size A l) => cut_at A cap l W hl hk h)
  have HC := Lib.hid hc
  have HK := Lib.hid (chk_cases l 0 ss0)
  clear hc
  generalize chk ss0 l 0 = R at *
  obtain ⟨x, y⟩ := R
  have hq : y = 0 ∧ x = -1 ∨ y ≠ 0 := by
    rcases HK.out with h | h
    · injection h with h1 h2
      exact .inl ⟨h2, h1⟩
    · exact .inr h
  rcases hq with ⟨rfl, rfl⟩ | hy
  · go_enter Try.func15, Try.ntmps15
    go_wp2_with (go_at_call 59; refine halt_ ?_)
    refine Halt_.go ?_
    refine HE.out.mono ?_
    rintro e w1 ⟨rfl, hb1⟩
    have HB1 := Lib.hid hb1
    have hsz := hb1.size
    unfold oddV
    have hb2 := hb1.alloc hsz (.cells #[.int .i64 (-1), .int .i64 0] 99)
    have hcut := HCUT.out (w1.alloc (.cells #[.int .i64 (-1), .int .i64 0] 99)) trivial ((HC.out.below hb2).more (by simp; omega))
    have HB2 := Lib.hid hb2
    have HCU := Lib.hid hcut
    clear hb1 hb2 hcut HCUT HE
    go_wp2_with (go_at_call 60; refine halt_ ?_)
    refine Halt_.go ?_
    refine HCU.out.mono ?_
    rintro e w2 ⟨Ab, cb, hd, Al, cl, rfl, h1, h2⟩
    have HF := Lib.hid (h1.base' (show w.heap.size ≤ _ by simp; omega))
    have HB3 := Lib.hid (HB2.out.trans (h2.mono (by simp; omega)))
    clear h1 h2
    go_wp2
    go_ret2
    exact ⟨.inr ⟨trivial, Ab, cb, hd, rfl, HF.out.hb⟩, HB3.out⟩
  · have e1 : (y != 0) = true := by simpa using hy
    have HY := Lib.hid hy
    clear hy
    go_enter Try.func15, Try.ntmps15
    go_wp2_with (go_at_call 59; refine halt_ ?_)
    refine Halt_.go ?_
    refine HE.out.mono ?_
    rintro e w1 ⟨rfl, hb1⟩
    have HB1 := Lib.hid hb1
    have hsz := hb1.size
    unfold oddV
    clear hb1 HCUT HE
    go_wp2
    go_quiet (fail)
    go_wp2
    go_ret2
    refine ⟨.inl ⟨HY.out, rfl⟩, ?_⟩
    have hB := HB1.out
    refine bdrewN ?_ _
    exact hB.alloc hsz _
set_option maxRecDepth 100000 in
set_option maxHeartbeats 3200000 in
theorem wOrder_any (A : Option Addr) (cap : Nat) (l : List Ev) (w : World) (hl : l.length ≤ 1099511627776) (hc : EvR w w.heap.size A l) :
    Calls Try.prog 16 #[.slice A l.length cap] w fun e w' => ((chk ss0 l 0).2 ≠ 0 ∧ e = .returned (.tuple #[.slice none 0 0, .int .i64 (chk ss0 l 0).2]) ∨
      chk ss0 l 0 = (-1, 0) ∧ ∃ Ao co, e = .returned (.tuple #[.slice Ao (ordS (wBl l) (wLk l) (wBl l).length).length co, .int .i64 0]) ∧ OwnI w' w.heap.size Ao co (lks (ordS (wBl l) (wLk l) (wBl l).length))) ∧ Below w.heap.size w w' := by
  have HE := Lib.hid (evCheck_any A cap l w hl hc)
  have HCUT := Lib.hid (fun W (hk : chk ss0 l 0 = (-1, 0)) (h : EvR W W.heap.size A l) => cut_at A cap l W hl hk h)
  have HC := Lib.hid hc
  have HK := Lib.hid (chk_cases l 0 ss0)
  clear hc
  generalize chk ss0 l 0 = R at *
  obtain ⟨x, y⟩ := R
  have hq : y = 0 ∧ x = -1 ∨ y ≠ 0 := by
    rcases HK.out with h | h
    · injection h with h1 h2
      exact .inl ⟨h2, h1⟩
    · exact .inr h
  rcases hq with ⟨rfl, rfl⟩ | hy
  · go_enter Try.func16, Try.ntmps16
    go_wp2_with (go_at_call 59; refine halt_ ?_)
    refine Halt_.go ?_
    refine HE.out.mono ?_
    rintro e w1 ⟨rfl, hb1⟩
    have HB1 := Lib.hid hb1
    have hsz := hb1.size
    unfold oddV
    have hb2 := hb1.alloc hsz (.cells #[.int .i64 (-1), .int .i64 0] 99)
    have hcut := HCUT.out (w1.alloc (.cells #[.int .i64 (-1), .int .i64 0] 99)) trivial ((HC.out.below hb2).more (by simp; omega))
    have HB2 := Lib.hid hb2
    have HCU := Lib.hid hcut
    clear hb1 hb2 hcut HCUT HE
    go_wp2_with (go_at_call 60; refine halt_ ?_)
    refine Halt_.go ?_
    refine HCU.out.mono ?_
    rintro e w2 ⟨Ab, cb, hd, Al, cl, rfl, h1, h2⟩
    have HOR := Lib.hid (order_any _ Ab cb (wBl l) hd Al cl (wLk l) w2 h1 (wLk_len l) (wLk_part l) (by have := wBl_le l; omega))
    have HB3 := Lib.hid (HB2.out.trans (h2.mono (by simp; omega)))
    have hsz3 := HB3.out.size
    clear h1 h2 HCU
    go_wp2_with (go_at_call 61; refine halt_ ?_)
    refine Halt_.go ?_
    refine HOR.out.mono ?_
    rintro e w3 ⟨Ao, co, rfl, h1, h2⟩
    have HF := Lib.hid (h1.base hsz3)
    have HB4 := Lib.hid (HB3.out.trans (h2.mono hsz3))
    clear h1 h2 HOR
    go_wp2
    go_ret2
    exact ⟨.inr ⟨trivial, Ao, co, rfl, HF.out⟩, HB4.out⟩
  · have e1 : (y != 0) = true := by simpa using hy
    have HY := Lib.hid hy
    clear hy
    go_enter Try.func16, Try.ntmps16
    go_wp2_with (go_at_call 59; refine halt_ ?_)
    refine Halt_.go ?_
    refine HE.out.mono ?_
    rintro e w1 ⟨rfl, hb1⟩
    have HB1 := Lib.hid hb1
    have hsz := hb1.size
    unfold oddV
    clear hb1 HCUT HE
    go_wp2
    go_quiet (fail)
    go_wp2
    go_ret2
    refine ⟨.inl ⟨HY.out, rfl⟩, ?_⟩
    have hB := HB1.out
    refine bdrewN ?_ _
    exact hB.alloc hsz _
end Go.Proofs.Ytjifpjfinffamaa
end
section
namespace Go.Proofs.Ytjifpjfinffamaa
structure NI (l : List Ev) (c : CS) (s : SS) (p : Nat) : Prop where
  rel : CRel c s
  nb : 0 ≤ s.num ∧ s.num ≤ (p : Int)
  num : ∀ j, j < c.bl.length → 0 ≤ (blAt c.bl j).num ∧ (blAt c.bl j).num ≤ s.num
  pl : ∀ j, j < c.bl.length → (blAt c.bl j).first ≤ c.lk.getD j 0 ∧ c.lk.getD j 0 ≤ (blAt c.bl j).last ∧ (blAt c.bl j).last < p
  thr : ∀ j, j < c.bl.length → 0 ≤ (blAt c.bl j).th ∧ (blAt c.bl j).th < 8
  opn : ∀ t j, c.op t = some j → (blAt c.bl j).kind = 5 ∧ ((blAt c.bl j).wr = true ↔ (s.t t.toNat).how = 2) ∧ (s.t t.toNat).snap = 2 * (blAt c.bl j).num ∧
    (∀ k, j < k → k < c.bl.length → (blAt c.bl k).th ≠ t) ∧ ∀ (q : Nat) (e : Ev), (blAt c.bl j).last < q → q < p → l[q]? = some e → e.th ≠ t
  pair : ∀ j k, j < k → k < c.bl.length → (blAt c.bl j).th = (blAt c.bl k).th → (blAt c.bl j).last < (blAt c.bl k).first ∧ (blAt c.bl j).num ≤ (blAt c.bl k).num ∧ ((blAt c.bl k).kind = 1 → (blAt c.bl k).wr = true → (blAt c.bl j).num < (blAt c.bl k).num)
  evs : ∀ (j q : Nat) (e : Ev), j < c.bl.length → (blAt c.bl j).first ≤ q → q ≤ (blAt c.bl j).last → l[q]? = some e → e.th = (blAt c.bl j).th → e.kind ≤ 9
  inc : ∀ j k, j < k → k < c.bl.length → (blAt c.bl j).first < (blAt c.bl k).first
  fst : ∀ j, j < c.bl.length → ∃ e, l[(blAt c.bl j).first]? = some e ∧ e.kind = 1 ∧ e.th = (blAt c.bl j).th
theorem two_num {x : Int} (h0 : 0 ≤ x) (h1 : x ≤ 1099511627776) : two x = 2 * x := by
  unfold two
  simp only [IntKind.wrap, IntKind.signed, IntKind.bits]
  simp
  omega
theorem putE_num {s : SS} {e : Ev} (h : putE s e = 0) : numB s e = true := by
  obtain ⟨h1, h2⟩ := putE_ok h
  unfold putE at h
  rw [if_neg (by simpa using h1), if_neg (by omega)] at h
  split at h
  · simp at h
  · split at h
    · simp at h
    · rename_i h3
      simpa using h3
theorem NI.start (l : List Ev) : NI l cs0 ss0 0 :=
  ⟨CRel.start, ⟨Int.le_refl _, Int.le_refl _⟩, fun j h => (by simp [cs0] at h), fun j h => (by simp [cs0] at h), fun j h => (by simp [cs0] at h), fun t j h => (by cases h), fun j k _ h => (by simp [cs0] at h), fun j q e h => (by simp [cs0] at h), fun j k _ h => (by simp [cs0] at h), fun j h => (by simp [cs0] at h)⟩
theorem blAt_new (L : List Bl) (b : Bl) : blAt (L ++ [b]) L.length = b := by simp [blAt, List.getD]
theorem blAt_old {L : List Bl} {j : Nat} (h : j < L.length) (b : Bl) : blAt (L ++ [b]) j = blAt L j := by simp [blAt, List.getD, List.getElem?_append_left h]
theorem lk_new (L : List Nat) (x : Nat) : (L ++ [x]).getD L.length 0 = x := by simp [List.getD]
theorem lk_old {L : List Nat} {j : Nat} (h : j < L.length) (x : Nat) : (L ++ [x]).getD j 0 = L.getD j 0 := by simp [List.getD, List.getElem?_append_left h]
theorem NI.begin {l : List Ev} {c : CS} {s : SS} {p : Nat} (h : NI l c s p) (hp : p ≤ 1099511627776) {e : Ev} (_he : l[p]? = some e) (hk : e.kind = 1) (hput : putE s e = 0) : NI l (cutS c p e) (adv s e) (p + 1) := by
  have hrel := h.rel.step p hput
  obtain ⟨hf, hn⟩ := putE_ok hput
  have ho := h.rel.none_ hput hk
  have hnum := putE_num hput
  unfold numB at hnum
  rw [if_pos hk] at hnum
  have hw : e.word = 2 * s.num := by
    have : e.word = two s.num := by simpa using hnum
    rw [this, two_num h.nb.1 (by have := h.nb.2; omega)]
  have hsn : (adv s e).num = s.num := by
    unfold adv
    dsimp only
    rw [if_neg]
    rintro ⟨h6, _⟩
    omega
  have hth : ∀ t : Int, 0 ≤ t → t ≠ e.th → (adv s e).t t.toNat = s.t t.toNat := by
    intro t h0 h2
    have : t.toNat ≠ e.th.toNat := by have := hf.1.1; omega
    simp [adv, this]
  have hcs : cutS c p e = ⟨c.bl ++ [begB e p], c.lk ++ [p], fun t => if t = e.th then some c.bl.length else c.op t⟩ := by unfold cutS; rw [if_pos hk]
  rw [hcs] at hrel ⊢
  have hlen : (c.bl ++ [begB e p]).length = c.bl.length + 1 := by simp
  have hlk := h.rel.len
  have cases_ : ∀ j, j < c.bl.length + 1 → j < c.bl.length ∨ j = c.bl.length := fun j hj => by omega
  have lknew : (c.lk ++ [p]).getD c.bl.length 0 = p := by rw [← hlk]; exact lk_new _ _
  refine ⟨hrel, ⟨by rw [hsn]; exact h.nb.1, by rw [hsn]; have := h.nb.2; omega⟩, fun j hj => ?_, fun j hj => ?_, fun j hj => ?_, fun t j hj => ?_, fun j k hjk hk' hth' => ?_, fun j q a hj h1 h2 h3 h4 => ?_, fun j k hjk hk' => ?_, fun j hj => ?_⟩
  · dsimp only at hj ⊢
    rw [hlen] at hj
    rw [hsn]
    rcases cases_ j hj with hj | rfl
    · rw [blAt_old hj]; exact h.num j hj
    · rw [blAt_new]
      have := h.nb.1
      simp only [begB]
      omega
  · dsimp only at hj ⊢
    rw [hlen] at hj
    rcases cases_ j hj with hj | rfl
    · rw [blAt_old hj, lk_old (by omega)]
      have := h.pl j hj
      omega
    · rw [blAt_new, lknew]
      simp only [begB]
      omega
  · dsimp only at hj ⊢
    rw [hlen] at hj
    rcases cases_ j hj with hj | rfl
    · rw [blAt_old hj]; exact h.thr j hj
    · rw [blAt_new]; exact hf.1
  · dsimp only at hj ⊢
    by_cases ht : t = e.th
    · rw [if_pos ht] at hj
      injection hj with hj
      subst hj ht
      rw [blAt_new]
      refine ⟨rfl, ?_, ?_, fun k h1 h2 => by rw [hlen] at h2; omega, fun q a h1 h2 => by simp only [begB] at h1; omega⟩
      · have h3 : (s.t e.th.toNat).how = 0 := by
          rcases nextI_how hn with h2 | h2
          · exact h2.1
          · exact absurd hk h2.2
        simp [adv, advT, begB, h3, hk, nextI]
      · simp [adv, advT, begB, hk]
        omega
    · rw [if_neg ht] at hj
      obtain ⟨hjl, hjt⟩ := h.rel.own t j hj
      obtain ⟨a1, a2, a3, a4, a5⟩ := h.opn t j hj
      have ht0 := (h.thr j hjl).1
      rw [blAt_old hjl, hth t (by omega) ht]
      refine ⟨a1, a2, a3, fun k h1 h2 => ?_, fun q a h1 h2 h3 => ?_⟩
      · rw [hlen] at h2
        rcases cases_ k h2 with h2 | rfl
        · rw [blAt_old h2]; exact a4 k h1 h2
        · rw [blAt_new]; exact fun e' => ht e'.symm
      · by_cases hq : q < p
        · exact a5 q a h1 hq h3
        · obtain rfl : q = p := by omega
          rw [_he] at h3
          injection h3 with h3
          subst h3
          exact fun e' => ht e'.symm
  · dsimp only at hk' hth' ⊢
    rw [hlen] at hk'
    rcases cases_ k hk' with hk' | rfl
    · rw [blAt_old hk', blAt_old (by omega)] at *
      exact h.pair j k hjk hk' hth'
    · rw [blAt_new, blAt_old hjk]
      have h1 := h.pl j hjk
      have h2 := h.num j hjk
      refine ⟨by simp only [begB]; omega, by simp only [begB]; omega, fun h3 => by simp [begB] at h3⟩
  · dsimp only at hj h1 h2 h4
    rw [hlen] at hj
    rcases cases_ j hj with hj | rfl
    · rw [blAt_old hj] at h1 h2 h4
      exact h.evs j q a hj h1 h2 h3 h4
    · rw [blAt_new] at h1 h2 h4
      simp only [begB] at h1 h2
      obtain rfl : q = p := by omega
      rw [_he] at h3
      injection h3 with h3
      subst h3
      omega
  · dsimp only at hk' ⊢
    rw [hlen] at hk'
    rcases cases_ k hk' with hk' | rfl
    · rw [blAt_old hk', blAt_old (by omega)]
      exact h.inc j k hjk hk'
    · rw [blAt_new, blAt_old hjk]
      have := h.pl j hjk
      simp only [begB]
      omega
  · dsimp only at hj ⊢
    rw [hlen] at hj
    rcases cases_ j hj with hj | rfl
    · rw [blAt_old hj]
      exact h.fst j hj
    · rw [blAt_new]
      exact ⟨e, _he, hk, rfl⟩
theorem nextI_one {kind err : Int} (h : 0 ≤ nextI 1 kind err) : kind = 2 ∨ kind = 3 ∨ kind = 4 ∨ kind = 5 ∨ kind = 6 ∨ kind = 7 ∨ kind = 8 ∨ kind = 9 := by
  unfold nextI at h
  simp only [Int.one_ne_zero, if_false, if_true] at h
  by_cases h1 : kind = 2 ∨ kind = 3 ∨ kind = 4
  · omega
  · rw [if_neg h1] at h
    by_cases h2 : kind = 5
    · omega
    · rw [if_neg h2] at h
      by_cases h3 : kind = 6 ∨ kind = 7 ∨ kind = 8
      · omega
      · rw [if_neg h3] at h
        by_cases h4 : kind = 9
        · omega
        · rw [if_neg h4] at h
          omega
theorem nextI_two {kind err : Int} (h : 0 ≤ nextI 2 kind err) : kind = 6 := by
  unfold nextI at h
  simp at h
  by_cases h1 : kind = 6
  · exact h1
  · simp [h1] at h
theorem NI.outside {l : List Ev} {c : CS} {s : SS} {p : Nat} (h : NI l c s p) {e : Ev} (he : l[p]? = some e) (hk : e.kind ≠ 1) (hput : putE s e = 0) (ho : c.op e.th = none) : NI l (cutS c p e) (adv s e) (p + 1) := by
  have hrel := h.rel.step p hput
  obtain ⟨hf, hn⟩ := putE_ok hput
  have hcs : cutS c p e = c := by unfold cutS; rw [if_neg hk, ho]
  rw [hcs] at hrel ⊢
  have hh : ¬ ((s.t e.th.toNat).how = 1 ∨ (s.t e.th.toNat).how = 2) := fun q => by
    obtain ⟨k, hk⟩ := (h.rel.how e.th hf.1.1 hf.1.2).2 q
    rw [ho] at hk
    cases hk
  have hsn : (adv s e).num = s.num := by
    unfold adv
    dsimp only
    rw [if_neg (fun q => hh (.inr q.2))]
  refine ⟨hrel, ⟨by rw [hsn]; exact h.nb.1, by rw [hsn]; have := h.nb.2; omega⟩, fun j hj => by rw [hsn]; exact h.num j hj, fun j hj => by have := h.pl j hj; omega, h.thr, fun t j hj => ?_, h.pair, h.evs, h.inc, h.fst⟩
  have ht : t ≠ e.th := fun q => by rw [q, ho] at hj; cases hj
  obtain ⟨hjl, hjt⟩ := h.rel.own t j hj
  obtain ⟨a1, a2, a3, a4, a5⟩ := h.opn t j hj
  have ht0 := (h.thr j hjl).1
  have hth : (adv s e).t t.toNat = s.t t.toNat := by
    have : t.toNat ≠ e.th.toNat := by have := hf.1.1; omega
    simp [adv, this]
  rw [hth]
  refine ⟨a1, a2, a3, a4, fun q a h1 h2 h3 => ?_⟩
  by_cases hq : q < p
  · exact a5 q a h1 hq h3
  · obtain rfl : q = p := by omega
    rw [he] at h3
    injection h3 with h3
    subst h3
    exact fun e' => ht e'.symm
set_option linter.unusedSimpArgs false in
theorem evB_facts {b : Bl} {s : SS} {e : Ev} (p : Nat) (hput : putE s e = 0) (hh : (s.t e.th.toNat).how = 1 ∨ (s.t e.th.toNat).how = 2) (hk : b.kind = 5) (hw : b.wr = true ↔ (s.t e.th.toNat).how = 2) (hs : (s.t e.th.toNat).snap = 2 * b.num) (h0 : 0 ≤ b.num ∧ b.num ≤ s.num) (hn0 : 0 ≤ s.num) (hn1 : s.num ≤ 1099511627776) :
    (evB b p e).first = b.first ∧ (evB b p e).last = p ∧ e.kind ≤ 9 ∧ e.kind ≠ 1 ∧ s.num ≤ (adv s e).num ∧ (adv s e).num ≤ s.num + 1 ∧ b.num ≤ (evB b p e).num ∧ (evB b p e).num ≤ (adv s e).num ∧ ((evB b p e).kind = 1 → (evB b p e).wr = true → s.num < (evB b p e).num) ∧
      (¬ OverK e.kind → (evB b p e).kind = 5 ∧ ((evB b p e).wr = true ↔ ((adv s e).t e.th.toNat).how = 2) ∧ ((adv s e).t e.th.toNat).snap = 2 * (evB b p e).num) := by
  obtain ⟨hf, hn⟩ := putE_ok hput
  have hnum := putE_num hput
  have hadv : (adv s e).num = if e.kind = 6 ∧ (s.t e.th.toNat).how = 2 then e.word else s.num := rfl
  have hhow : ((adv s e).t e.th.toNat).how = nextI (s.t e.th.toNat).how e.kind e.err := by simp [adv, advT]
  have hsnap : ((adv s e).t e.th.toNat).snap = if e.kind = 1 ∨ e.kind = 4 then e.word else (s.t e.th.toNat).snap := by simp [adv, advT]
  have htw := two_num hn0 hn1
  have hwr1 : IntKind.u64.wrap (s.num + 1) = s.num + 1 := by
    simp only [IntKind.wrap, IntKind.signed, IntKind.bits]
    simp
    omega
  have hkk : e.kind = 2 ∨ e.kind = 3 ∨ e.kind = 4 ∨ e.kind = 5 ∨ e.kind = 6 ∨ e.kind = 7 ∨ e.kind = 8 ∨ e.kind = 9 := by
    rcases hh with q | q
    · rw [q] at hn
      exact nextI_one hn
    · rw [q] at hn
      have := nextI_two hn
      omega
  have h62 : (s.t e.th.toNat).how = 2 → e.kind = 6 := fun q => by rw [q] at hn; exact nextI_two hn
  unfold numB at hnum
  rw [hadv, hhow, hsnap]
  rcases hkk with k | k | k | k | k | k | k | k
  case inr.inr.inr.inr.inl =>
    rw [k, if_neg (by decide), if_neg (by decide), if_neg (by decide), if_pos rfl] at hnum
    by_cases q : (s.t e.th.toNat).how = 2
    · rw [if_pos q] at hnum
      have hwd : e.word = s.num + 1 := by
        have : e.word = IntKind.u64.wrap (s.num + 1) := by simpa using hnum
        rw [this, hwr1]
      have hov : OverK e.kind := .inl k
      simp only [evB, clB, k, q, hwd]
      refine ⟨rfl, rfl, (by first | omega | (simp; omega) | simp), (by first | omega | (simp; omega) | simp), (by first | omega | (simp; omega) | simp), (by first | omega | (simp; omega) | simp), (by first | omega | (simp; omega) | simp), (by first | omega | (simp; omega) | simp), fun _ _ => (by first | omega | (simp; omega) | simp), fun h => absurd (.inl rfl) h⟩
    · rw [if_neg q] at hnum
      have hwd : e.word = b.num := by
        have : e.word = (s.t e.th.toNat).snap / 2 := by simpa using hnum
        rw [this, hs]
        omega
      have hwf : b.wr = false := by
        cases hb : b.wr with
        | false => rfl
        | true => exact absurd (hw.1 hb) q
      simp only [evB, clB, k, q, hwd]
      refine ⟨rfl, rfl, (by first | omega | (simp; omega) | simp), (by first | omega | (simp; omega) | simp), (by first | omega | (simp; omega) | simp), (by first | omega | (simp; omega) | simp), (by first | omega | (simp; omega) | simp), (by first | omega | (simp; omega) | simp), fun _ h2 => ?_, fun h => absurd (.inl rfl) h⟩
      simp [hwf] at h2
  case inr.inr.inl =>
    have h2n : ¬ (s.t e.th.toNat).how = 2 := fun q => by have := h62 q; omega
    have h1 : (s.t e.th.toNat).how = 1 := by rcases hh with q | q; exact q; exact absurd q h2n
    rw [k, if_neg (by decide), if_pos rfl] at hnum
    have hwd : e.word = 2 * s.num := by
      simp only [Bool.and_eq_true, beq_iff_eq] at hnum
      rw [hnum.1, htw]
    have hwf : b.wr = false := by
      cases hb : b.wr with
      | false => rfl
      | true => exact absurd (hw.1 hb) h2n
    simp only [evB, clB, stB, k, h1, hwd, hk, hwf]
    refine ⟨rfl, rfl, (by first | omega | (simp; omega) | simp), (by first | omega | (simp; omega) | simp), (by first | omega | (simp; omega) | simp), (by first | omega | (simp; omega) | simp), (by first | omega | (simp; omega) | simp), (by first | omega | (simp; omega) | simp), fun h => (by simp [hk] at h), fun _ => ⟨by simp [hk], by simp [nextI, hwf], (by first | omega | (simp; omega) | simp)⟩⟩
  case inr.inr.inr.inl =>
    have h2n : ¬ (s.t e.th.toNat).how = 2 := fun q => by have := h62 q; omega
    have h1 : (s.t e.th.toNat).how = 1 := by rcases hh with q | q; exact q; exact absurd q h2n
    simp only [evB, clB, stB, k, h1]
    refine ⟨rfl, rfl, (by first | omega | (simp; omega) | simp), (by first | omega | (simp; omega) | simp), (by first | omega | (simp; omega) | simp), (by first | omega | (simp; omega) | simp), (by first | omega | (simp; omega) | simp), (by first | omega | (simp; omega) | simp), fun h => (by simp [hk] at h), fun _ => ⟨by simp [hk], by simp [nextI], (by simpa using hs)⟩⟩
  all_goals
    have h2n : ¬ (s.t e.th.toNat).how = 2 := fun q => by have := h62 q; omega
    have h1 : (s.t e.th.toNat).how = 1 := by rcases hh with q | q; exact q; exact absurd q h2n
    have hwf : b.wr = false := by
      cases hb : b.wr with
      | false => rfl
      | true => exact absurd (hw.1 hb) h2n
  · by_cases ho : e.own = true
    · simp only [evB, clB, stB, k, h1, ho]
      refine ⟨rfl, rfl, (by first | omega | (simp; omega) | simp), (by first | omega | (simp; omega) | simp), (by first | omega | (simp; omega) | simp), (by first | omega | (simp; omega) | simp), (by first | omega | (simp; omega) | simp), (by first | omega | (simp; omega) | simp), fun h => (by simp [hk] at h), fun _ => ⟨by simp [hk], by simp [nextI, hwf], (by simpa using hs)⟩⟩
    · simp only [evB, clB, stB, k, h1, ho]
      refine ⟨rfl, rfl, (by first | omega | (simp; omega) | simp), (by first | omega | (simp; omega) | simp), (by first | omega | (simp; omega) | simp), (by first | omega | (simp; omega) | simp), (by first | omega | (simp; omega) | simp), (by first | omega | (simp; omega) | simp), fun h => (by simp [hk] at h), fun _ => ⟨by simp [hk], by simp [nextI, hwf], (by simpa using hs)⟩⟩
  · simp only [evB, clB, stB, k, h1]
    refine ⟨rfl, rfl, (by first | omega | (simp; omega) | simp), (by first | omega | (simp; omega) | simp), (by first | omega | (simp; omega) | simp), (by first | omega | (simp; omega) | simp), (by first | omega | (simp; omega) | simp), (by first | omega | (simp; omega) | simp), fun h => (by simp [hk] at h), fun _ => ⟨by simp [hk], by simp [nextI, hwf], (by simpa using hs)⟩⟩
  · simp only [evB, clB, k, h1]
    refine ⟨rfl, rfl, (by first | omega | (simp; omega) | simp), (by first | omega | (simp; omega) | simp), (by first | omega | (simp; omega) | simp), (by first | omega | (simp; omega) | simp), (by first | omega | (simp; omega) | simp), (by first | omega | (simp; omega) | simp), fun h => (by simp at h), fun h => absurd (.inr (.inr (.inr rfl))) h⟩
  · simp only [evB, clB, k, h1]
    refine ⟨rfl, rfl, (by first | omega | (simp; omega) | simp), (by first | omega | (simp; omega) | simp), (by first | omega | (simp; omega) | simp), (by first | omega | (simp; omega) | simp), (by first | omega | (simp; omega) | simp), (by first | omega | (simp; omega) | simp), fun h => (by simp at h), fun h => absurd (.inr (.inl rfl)) h⟩
  · simp only [evB, clB, k, h1]
    refine ⟨rfl, rfl, (by first | omega | (simp; omega) | simp), (by first | omega | (simp; omega) | simp), (by first | omega | (simp; omega) | simp), (by first | omega | (simp; omega) | simp), (by first | omega | (simp; omega) | simp), (by first | omega | (simp; omega) | simp), fun h => (by simp at h), fun h => absurd (.inr (.inr (.inl rfl))) h⟩
theorem NI.inside {l : List Ev} {c : CS} {s : SS} {p : Nat} (h : NI l c s p) (hp : p ≤ 1099511627776) {e : Ev} (he : l[p]? = some e) (hk : e.kind ≠ 1) (hput : putE s e = 0) {j0 : Nat} (ho : c.op e.th = some j0) : NI l (cutS c p e) (adv s e) (p + 1) := by
  have hrel := h.rel.step p hput
  obtain ⟨hf, hn⟩ := putE_ok hput
  obtain ⟨hj0, hjt⟩ := h.rel.own _ _ ho
  obtain ⟨a1, a2, a3, a4, a5⟩ := h.opn _ _ ho
  have hh := (h.rel.how e.th hf.1.1 hf.1.2).1 ⟨j0, ho⟩
  have hnm := h.num j0 hj0
  have hnb := h.nb
  obtain ⟨f1, f2, f3, _, f5, f6, f7, f8, f9, f10⟩ := evB_facts p hput hh a1 a2 a3 hnm hnb.1 (by omega)
  have hth0 := evB_th (blAt c.bl j0) p e
  have hcs : cutS c p e = ⟨c.bl.set j0 (evB (blAt c.bl j0) p e), if e.kind = 4 then c.lk.set j0 p else c.lk, if OverK e.kind then fun t => if t = e.th then none else c.op t else c.op⟩ := by unfold cutS; rw [if_neg hk, ho]
  rw [hcs] at hrel ⊢
  generalize evB (blAt c.bl j0) p e = b' at *
  have hlen : (c.bl.set j0 b').length = c.bl.length := List.length_set
  have hat : ∀ i, blAt (c.bl.set j0 b') i = if i = j0 then b' else blAt c.bl i := fun i => blAt_set hj0 b' i
  have hlk := h.rel.len
  have lkat : ∀ i, (if e.kind = 4 then c.lk.set j0 p else c.lk).getD i 0 = if e.kind = 4 ∧ i = j0 then p else c.lk.getD i 0 := by
    intro i
    by_cases k4 : e.kind = 4
    · rw [if_pos k4]
      by_cases hi : i = j0
      · subst hi
        rw [if_pos ⟨k4, rfl⟩]
        simp [List.getD, show i < c.lk.length by omega]
      · rw [if_neg (fun q => hi q.2)]
        simp only [List.getD]
        rw [List.getElem?_set_ne (fun q => hi q.symm)]
    · rw [if_neg k4, if_neg (fun q => k4 q.1)]
  have hthx : ∀ t : Int, 0 ≤ t → t ≠ e.th → (adv s e).t t.toNat = s.t t.toNat := by
    intro t h0 h2
    have : t.toNat ≠ e.th.toNat := by have := hf.1.1; omega
    simp [adv, this]
  have hpl0 := h.pl j0 hj0
  refine ⟨hrel, ⟨by omega, by omega⟩, fun j hj => ?_, fun j hj => ?_, fun j hj => ?_, fun t j hj => ?_, fun j k hjk hk' hth' => ?_, fun j q a hj h1 h2 h3 h4 => ?_, fun j k hjk hk' => ?_, fun j hj => ?_⟩
  · dsimp only at hj ⊢
    rw [hlen] at hj
    rw [hat]
    split
    · omega
    · have := h.num j hj
      omega
  · dsimp only at hj ⊢
    rw [hlen] at hj
    rw [hat, lkat]
    by_cases hi : j = j0
    · subst hi
      rw [if_pos rfl, f1, f2]
      split <;> omega
    · rw [if_neg hi, if_neg (fun q => hi q.2)]
      have := h.pl j hj
      omega
  · dsimp only at hj ⊢
    rw [hlen] at hj
    rw [hat]
    split
    · rw [hth0]; exact h.thr j0 hj0
    · exact h.thr j hj
  · dsimp only at hj ⊢
    have hj2 : c.op t = some j ∧ (t = e.th → ¬ OverK e.kind) := by
      by_cases hov : OverK e.kind
      · rw [if_pos hov] at hj
        by_cases ht : t = e.th
        · rw [if_pos ht] at hj
          cases hj
        · rw [if_neg ht] at hj
          exact ⟨hj, fun q => absurd q ht⟩
      · rw [if_neg hov] at hj
        exact ⟨hj, fun _ => hov⟩
    obtain ⟨hj3, hj4⟩ := hj2
    by_cases ht : t = e.th
    · subst ht
      rw [ho] at hj3
      injection hj3 with hj3
      subst hj3
      obtain ⟨g1, g2, g3⟩ := f10 (hj4 rfl)
      rw [hat, if_pos rfl]
      refine ⟨g1, g2, g3, fun k h1 h2 => ?_, fun q a h1 h2 => by omega⟩
      rw [hlen] at h2
      rw [hat, if_neg (by omega)]
      exact a4 k h1 h2
    · obtain ⟨hjl, hjt'⟩ := h.rel.own t j hj3
      obtain ⟨b1, b2, b3, b4, b5⟩ := h.opn t j hj3
      have hne : j ≠ j0 := fun q => ht (by rw [← hjt', q, hjt])
      have ht0 := (h.thr j hjl).1
      rw [hat, if_neg hne, hthx t (by omega) ht]
      refine ⟨b1, b2, b3, fun k h1 h2 => ?_, fun q a h1 h2 h3 => ?_⟩
      · rw [hlen] at h2
        rw [hat]
        split
        · rw [hth0, hjt]
          exact fun q => ht q.symm
        · exact b4 k h1 h2
      · by_cases hq : q < p
        · exact b5 q a h1 hq h3
        · obtain rfl : q = p := by omega
          rw [he] at h3
          injection h3 with h3
          subst h3
          exact fun q => ht q.symm
  · dsimp only at hk' hth' ⊢
    rw [hlen] at hk'
    rw [hat, hat] at hth' ⊢
    by_cases hj : j = j0
    · subst hj
      rw [if_pos rfl, if_neg (by omega), hth0] at hth'
      exact absurd (hth'.symm.trans hjt) (a4 k hjk hk')
    · rw [if_neg hj] at hth' ⊢
      by_cases hk2 : k = j0
      · subst hk2
        rw [if_pos rfl] at hth' ⊢
        rw [hth0] at hth'
        obtain ⟨p1, p2, _⟩ := h.pair j k hjk hk' hth'
        have hnj := h.num j (by omega)
        refine ⟨by omega, by omega, fun h1 h2 => ?_⟩
        have := f9 h1 h2
        omega
      · rw [if_neg hk2] at hth' ⊢
        exact h.pair j k hjk hk' hth'
  · dsimp only at hj h1 h2 h4
    rw [hlen] at hj
    rw [hat] at h1 h2 h4
    by_cases hi : j = j0
    · subst hi
      rw [if_pos rfl] at h1 h2 h4
      rw [hth0] at h4
      by_cases hq : q = p
      · subst hq
        rw [he] at h3
        injection h3 with h3
        subst h3
        exact f3
      · by_cases hq2 : q ≤ (blAt c.bl j).last
        · exact h.evs j q a hj (by omega) hq2 h3 h4
        · exact absurd (h4.trans hjt) (a5 q a (by omega) (by omega) h3)
    · rw [if_neg hi] at h1 h2 h4
      exact h.evs j q a hj h1 h2 h3 h4
  · dsimp only at hk' ⊢
    rw [hlen] at hk'
    rw [hat, hat]
    have := h.inc j k hjk hk'
    by_cases hi : j = j0
    · subst hi
      rw [if_pos rfl, if_neg (by omega), f1]
      exact this
    · rw [if_neg hi]
      by_cases hi2 : k = j0
      · subst hi2
        rw [if_pos rfl, f1]
        exact this
      · rw [if_neg hi2]
        exact this
  · dsimp only at hj ⊢
    rw [hlen] at hj
    rw [hat]
    split
    · rw [f1, hth0]
      exact h.fst j0 hj0
    · exact h.fst j hj
theorem NI.all {l : List Ev} (hl : l.length ≤ 1099511627776) : ∀ (n p : Nat) (c : CS) (s : SS), l.length - p = n → p ≤ l.length → NI l c s p → chk s (l.drop p) p = (-1, 0) → ∃ s', NI l (cutF c (l.drop p) p) s' l.length
  | 0, p, c, s, hn, hp, h, _ => by
    obtain rfl : p = l.length := by omega
    rw [cutF_end]
    exact ⟨s, h⟩
  | n + 1, p, c, s, hn, hp, h, hc => by
    have hlt : p < l.length := by omega
    have he : l[p]? = some l[p] := List.getElem?_eq_getElem hlt
    rw [chk_step he] at hc
    have hput : putE s l[p] = 0 := by
      by_cases q : putE s l[p] = 0
      · exact q
      · rw [if_neg q] at hc
        injection hc with h1 h2
    rw [if_pos hput] at hc
    rw [cutF_step he]
    refine NI.all hl n (p + 1) _ (adv s l[p]) (by omega) hlt ?_ hc
    by_cases hk : l[p].kind = 1
    · exact h.begin (by omega) he hk hput
    · cases ho : c.op l[p].th with
      | none => exact h.outside he hk hput ho
      | some j0 => exact h.inside (by omega) he hk hput ho
structure BlkF (l : List Ev) (bl : List Bl) (lk : List Nat) : Prop where
  pl : ∀ j, j < bl.length → (blAt bl j).first ≤ (blAt bl j).last ∧ (blAt bl j).last < l.length
  thr : ∀ j, j < bl.length → 0 ≤ (blAt bl j).th ∧ (blAt bl j).th < 8
  pair : ∀ j k, j < k → k < bl.length → (blAt bl j).th = (blAt bl k).th → (blAt bl j).last < (blAt bl k).first ∧ befL bl lk j k = true
  evs : ∀ (j q : Nat) (e : Ev), j < bl.length → (blAt bl j).first ≤ q → q ≤ (blAt bl j).last → l[q]? = some e → e.th = (blAt bl j).th → e.kind ≤ 9
  inc : ∀ j k, j < k → k < bl.length → (blAt bl j).first < (blAt bl k).first
  fst : ∀ j, j < bl.length → ∃ e, l[(blAt bl j).first]? = some e ∧ e.kind = 1 ∧ e.th = (blAt bl j).th
theorem wBl_at {l : List Ev} {j : Nat} (hj : j < (wBl l).length) : blAt (wBl l) j = finW (blAt (cutF cs0 l 0).bl j) := by
  rw [wBl_len] at hj
  simp [wBl, blAt, List.getD, hj]
theorem BefB_lt {a b : Bl} {x y : Int} (h : a.num < b.num ∨ a.num = b.num ∧ b.wr = false ∧ x < y) : BefB a x b y = true := by
  unfold BefB
  rcases h with h | ⟨h1, h2, h3⟩
  · rw [if_pos (by omega)]
    exact decide_eq_true h
  · rw [if_neg (by simpa using h1), h2]
    cases a.wr with
    | false => simpa using h3
    | true => rfl
theorem wBl_facts {l : List Ev} (hl : l.length ≤ 1099511627776) (hk : chk ss0 l 0 = (-1, 0)) : BlkF l (wBl l) (wLk l) := by
  obtain ⟨s, h⟩ := NI.all hl _ 0 cs0 ss0 rfl (Nat.zero_le _) (NI.start l) hk
  rw [List.drop_zero] at h
  have hw := fun j hj => @wBl_at l j hj
  have hlen := wBl_len l
  refine ⟨fun j hj => ?_, fun j hj => ?_, fun j k hjk hk' hth => ?_, fun j q e hj h1 h2 h3 h4 => ?_, fun j k hjk hk' => ?_, fun j hj => ?_⟩
  · rw [hw j hj]
    have := h.pl j (by omega)
    simp only [finW]
    omega
  · rw [hw j hj]
    exact h.thr j (by omega)
  · have hth' : (blAt (cutF cs0 l 0).bl j).th = (blAt (cutF cs0 l 0).bl k).th := by
      rw [hw j (by omega), hw k hk'] at hth
      exact hth
    obtain ⟨p1, p2, p3⟩ := h.pair j k hjk (by omega) hth'
    have l1 := h.pl j (by omega)
    have l2 := h.pl k (by omega)
    refine ⟨by rw [hw j (by omega), hw k hk']; exact p1, ?_⟩
    unfold befL
    rw [hw j (by omega), hw k hk']
    apply BefB_lt
    by_cases hnm : (blAt (cutF cs0 l 0).bl j).num = (blAt (cutF cs0 l 0).bl k).num
    · have hwk : (finW (blAt (cutF cs0 l 0).bl k)).wr = false := by
        show ((blAt (cutF cs0 l 0).bl k).wr && decide ((blAt (cutF cs0 l 0).bl k).kind = 1)) = false
        cases hb : (blAt (cutF cs0 l 0).bl k).wr with
        | false => rfl
        | true =>
          simp only [Bool.true_and]
          refine decide_eq_false fun q => ?_
          have := p3 q hb
          omega
      refine .inr ⟨hnm, hwk, ?_⟩
      show (((cutF cs0 l 0).lk.getD j 0 : Nat) : Int) < (((cutF cs0 l 0).lk.getD k 0 : Nat) : Int)
      omega
    · exact .inl (show (blAt (cutF cs0 l 0).bl j).num < (blAt (cutF cs0 l 0).bl k).num by omega)
  · rw [hw j hj] at h1 h2 h4
    exact h.evs j q e (by omega) h1 h2 h3 h4
  · rw [hw j (by omega), hw k hk']
    exact h.inc j k hjk (by omega)
  · rw [hw j hj]
    exact h.fst j (by omega)
end Go.Proofs.Ytjifpjfinffamaa
end
section
namespace Go.Proofs.Ytjifpjfinffamaa
structure Pt where
  th : Int
  fi : Nat
  la : Nat
  bk : Int
def pt0 : Pt := ⟨0, 0, 0, 0⟩
def ptAt (P : List Pt) (i : Nat) : Pt := P.getD i pt0
def PlK (k : Int) : Prop := k = 10 ∨ k = 11
instance (k : Int) : Decidable (PlK k) := inferInstanceAs (Decidable (_ ∨ _))
def ptOfB (bl : List Bl) (i : Nat) : Pt := ⟨(blAt bl i).th, (blAt bl i).first, (blAt bl i).last, (i : Int)⟩
def ptOfE (l : List Ev) (i : Nat) : Pt := ⟨(l.getD i ev0).th, i, i, -1⟩
def ptsB (bl : List Bl) : Nat → List Pt
  | 0 => []
  | n + 1 => if OverB (blAt bl n) = true then ptsB bl n ++ [ptOfB bl n] else ptsB bl n
def ptsE (l : List Ev) : Nat → List Pt
  | 0 => []
  | n + 1 => if PlK (l.getD n ev0).kind then ptsE l n ++ [ptOfE l n] else ptsE l n
def pts (l : List Ev) (bl : List Bl) : List Pt := ptsB bl bl.length ++ ptsE l l.length
theorem ptsB_succ (bl : List Bl) (n : Nat) : ptsB bl (n + 1) = if OverB (blAt bl n) = true then ptsB bl n ++ [ptOfB bl n] else ptsB bl n := rfl
theorem ptsE_succ (l : List Ev) (n : Nat) : ptsE l (n + 1) = if PlK (l.getD n ev0).kind then ptsE l n ++ [ptOfE l n] else ptsE l n := rfl
theorem ptsB_len (bl : List Bl) : ∀ n, (ptsB bl n).length ≤ n
  | 0 => Nat.le_refl _
  | n + 1 => by
    have := ptsB_len bl n
    unfold ptsB
    split
    · simp; omega
    · omega
theorem ptsE_len (l : List Ev) : ∀ n, (ptsE l n).length ≤ n
  | 0 => Nat.le_refl _
  | n + 1 => by
    have := ptsE_len l n
    unfold ptsE
    split
    · simp; omega
    · omega
theorem ptsB_mono (bl : List Bl) {m n : Nat} (h : m ≤ n) : ∃ r, ptsB bl n = ptsB bl m ++ r := by
  induction n with
  | zero =>
    obtain rfl : m = 0 := by omega
    exact ⟨[], by simp⟩
  | succ n ih =>
    by_cases e : m = n + 1
    · subst e
      exact ⟨[], by simp⟩
    · obtain ⟨r, hr⟩ := ih (by omega)
      rw [ptsB_succ]
      split
      · exact ⟨r ++ [ptOfB bl n], by rw [hr, List.append_assoc]⟩
      · exact ⟨r, hr⟩
def plc (bl : List Bl) (i : Nat) : Nat := (ptsB bl i).length
theorem plc_at {bl : List Bl} {i n : Nat} (h : i < n) (ho : OverB (blAt bl i) = true) : (ptsB bl n)[plc bl i]? = some (ptOfB bl i) := by
  obtain ⟨r, hr⟩ := ptsB_mono bl (show i + 1 ≤ n from h)
  have h1 : ptsB bl (i + 1) = ptsB bl i ++ [ptOfB bl i] := by rw [ptsB_succ, if_pos ho]
  unfold plc
  rw [hr, h1, List.append_assoc, List.getElem?_append_right (Nat.le_refl _)]
  simp
theorem ptsB_inv {bl : List Bl} : ∀ {n p : Nat} {x : Pt}, (ptsB bl n)[p]? = some x → ∃ i, i < n ∧ OverB (blAt bl i) = true ∧ p = plc bl i ∧ x = ptOfB bl i
  | 0, p, x, h => by simp [ptsB] at h
  | n + 1, p, x, h => by
    unfold ptsB at h
    split at h
    · rename_i ho
      by_cases hp : p < (ptsB bl n).length
      · rw [List.getElem?_append_left hp] at h
        obtain ⟨i, h1, h2, h3, h4⟩ := ptsB_inv h
        exact ⟨i, by omega, h2, h3, h4⟩
      · rw [List.getElem?_append_right (by omega)] at h
        have h0 : p - (ptsB bl n).length = 0 := by
          have := (List.getElem?_eq_some_iff.1 h).1
          simp at this
          omega
        rw [h0] at h
        simp at h
        exact ⟨n, by omega, ho, by unfold plc; omega, h.symm⟩
    · obtain ⟨i, h1, h2, h3, h4⟩ := ptsB_inv h
      exact ⟨i, by omega, h2, h3, h4⟩
theorem plc_inj {bl : List Bl} {i k : Nat} (hi : OverB (blAt bl i) = true) (hk : OverB (blAt bl k) = true) (h : plc bl i = plc bl k) : i = k := by
  have a := plc_at (n := i + k + 1) (show i < i + k + 1 by omega) hi
  have b := plc_at (n := i + k + 1) (show k < i + k + 1 by omega) hk
  rw [h, b] at a
  injection a with a
  have := congrArg Pt.bk a
  simp only [ptOfB] at this
  omega
theorem ptsE_inv {l : List Ev} : ∀ {n p : Nat} {x : Pt}, (ptsE l n)[p]? = some x → ∃ i, i < n ∧ PlK (l.getD i ev0).kind ∧ p = (ptsE l i).length ∧ x = ptOfE l i
  | 0, p, x, h => by simp [ptsE] at h
  | n + 1, p, x, h => by
    unfold ptsE at h
    split at h
    · rename_i ho
      by_cases hp : p < (ptsE l n).length
      · rw [List.getElem?_append_left hp] at h
        obtain ⟨i, h1, h2, h3, h4⟩ := ptsE_inv h
        exact ⟨i, by omega, h2, h3, h4⟩
      · rw [List.getElem?_append_right (by omega)] at h
        have h0 : p - (ptsE l n).length = 0 := by
          have := (List.getElem?_eq_some_iff.1 h).1
          simp at this
          omega
        rw [h0] at h
        simp at h
        exact ⟨n, by omega, ho, by omega, h.symm⟩
    · obtain ⟨i, h1, h2, h3, h4⟩ := ptsE_inv h
      exact ⟨i, by omega, h2, h3, h4⟩
theorem ptsE_mono (l : List Ev) {m n : Nat} (h : m ≤ n) : ∃ r, ptsE l n = ptsE l m ++ r := by
  induction n with
  | zero =>
    obtain rfl : m = 0 := by omega
    exact ⟨[], by simp⟩
  | succ n ih =>
    by_cases e : m = n + 1
    · subst e
      exact ⟨[], by simp⟩
    · obtain ⟨r, hr⟩ := ih (by omega)
      rw [ptsE_succ]
      split
      · exact ⟨r ++ [ptOfE l n], by rw [hr, List.append_assoc]⟩
      · exact ⟨r, hr⟩
theorem ptsE_at {l : List Ev} {i n : Nat} (h : i < n) (ho : PlK (l.getD i ev0).kind) : (ptsE l n)[(ptsE l i).length]? = some (ptOfE l i) := by
  obtain ⟨r, hr⟩ := ptsE_mono l (show i + 1 ≤ n from h)
  have h1 : ptsE l (i + 1) = ptsE l i ++ [ptOfE l i] := by rw [ptsE_succ, if_pos ho]
  rw [hr, h1, List.append_assoc, List.getElem?_append_right (Nat.le_refl _)]
  simp
theorem pts_inv {l : List Ev} {bl : List Bl} {p : Nat} (hp : p < (pts l bl).length) :
    (∃ i, i < bl.length ∧ OverB (blAt bl i) = true ∧ p = plc bl i ∧ ptAt (pts l bl) p = ptOfB bl i) ∨ ∃ i, i < l.length ∧ PlK (l.getD i ev0).kind ∧ p = (ptsB bl bl.length).length + (ptsE l i).length ∧ ptAt (pts l bl) p = ptOfE l i := by
  obtain ⟨x, hx⟩ : ∃ x, (pts l bl)[p]? = some x := ⟨_, List.getElem?_eq_getElem hp⟩
  have hat : ptAt (pts l bl) p = x := by simp [ptAt, List.getD, hx]
  rw [hat]
  unfold pts at hx
  by_cases h : p < (ptsB bl bl.length).length
  · rw [List.getElem?_append_left h] at hx
    obtain ⟨i, h1, h2, h3, h4⟩ := ptsB_inv hx
    exact .inl ⟨i, h1, h2, h3, h4⟩
  · rw [List.getElem?_append_right (by omega)] at hx
    obtain ⟨i, h1, h2, h3, h4⟩ := ptsE_inv hx
    exact .inr ⟨i, h1, h2, by omega, h4⟩
theorem pts_block {l : List Ev} {bl : List Bl} {i : Nat} (hi : i < bl.length) (ho : OverB (blAt bl i) = true) : plc bl i < (pts l bl).length ∧ ptAt (pts l bl) (plc bl i) = ptOfB bl i := by
  have h := plc_at hi ho
  have hl := (List.getElem?_eq_some_iff.1 h).1
  refine ⟨by unfold pts; rw [List.length_append]; omega, ?_⟩
  unfold ptAt pts
  simp only [List.getD]
  rw [List.getElem?_append_left hl, h]
  rfl
theorem pts_plain {l : List Ev} {bl : List Bl} {i : Nat} (hi : i < l.length) (ho : PlK (l.getD i ev0).kind) : (ptsB bl bl.length).length + (ptsE l i).length < (pts l bl).length ∧ ptAt (pts l bl) ((ptsB bl bl.length).length + (ptsE l i).length) = ptOfE l i := by
  have h := ptsE_at hi ho
  have hl := (List.getElem?_eq_some_iff.1 h).1
  refine ⟨by unfold pts; rw [List.length_append]; omega, ?_⟩
  unfold ptAt pts
  simp only [List.getD]
  rw [List.getElem?_append_right (by omega), Nat.add_sub_cancel_left, h]
  rfl
section
variable {l : List Ev} {bl : List Bl} {lk : List Nat}
theorem pts_range (h : BlkF l bl lk) {p : Nat} (hp : p < (pts l bl).length) : (ptAt (pts l bl) p).fi ≤ (ptAt (pts l bl) p).la ∧ (ptAt (pts l bl) p).la < l.length := by
  rcases pts_inv hp with ⟨i, h1, h2, _, h4⟩ | ⟨i, h1, h2, _, h4⟩
  · rw [h4]; exact h.pl i h1
  · rw [h4]; exact ⟨Nat.le_refl _, h1⟩
theorem pts_thr (h : BlkF l bl lk) (hth : ∀ e ∈ l, 0 ≤ e.th ∧ e.th < 8) {p : Nat} (hp : p < (pts l bl).length) : 0 ≤ (ptAt (pts l bl) p).th ∧ (ptAt (pts l bl) p).th < 8 := by
  rcases pts_inv hp with ⟨i, h1, h2, _, h4⟩ | ⟨i, h1, h2, _, h4⟩
  · rw [h4]; exact h.thr i h1
  · rw [h4]
    simp only [ptOfE, List.getD, List.getElem?_eq_getElem h1, Option.getD_some]
    exact hth _ (List.getElem_mem h1)
theorem pts_fi (h : BlkF l bl lk) {p q : Nat} (hp : p < (pts l bl).length) (hq : q < (pts l bl).length) (he : (ptAt (pts l bl) p).fi = (ptAt (pts l bl) q).fi) : p = q := by
  have mix : ∀ i k, i < bl.length → k < l.length → PlK (l.getD k ev0).kind → (blAt bl i).first ≠ k := by
    intro i k hi hk hpl e
    obtain ⟨a, h1, h2, _⟩ := h.fst i hi
    rw [e] at h1
    have : l.getD k ev0 = a := by simp [List.getD, h1]
    rw [this] at hpl
    rcases hpl with q | q <;> omega
  rcases pts_inv hp with ⟨i, h1, h2, h3, h4⟩ | ⟨i, h1, h2, h3, h4⟩ <;> rcases pts_inv hq with ⟨k, g1, g2, g3, g4⟩ | ⟨k, g1, g2, g3, g4⟩
  · rw [h4, g4] at he
    simp only [ptOfB] at he
    rcases Nat.lt_trichotomy i k with q | q | q
    · have := h.inc i k q g1; omega
    · rw [h3, g3, q]
    · have := h.inc k i q h1; omega
  · rw [h4, g4] at he
    exact absurd he (mix i k h1 g1 g2)
  · rw [h4, g4] at he
    exact absurd he.symm (mix k i g1 h1 h2)
  · rw [h4, g4] at he
    simp only [ptOfE] at he
    rw [h3, g3, he]
theorem pts_apart (h : BlkF l bl lk) {p q : Nat} (hp : p < (pts l bl).length) (hq : q < (pts l bl).length) (ht : (ptAt (pts l bl) p).th = (ptAt (pts l bl) q).th) (hlt : (ptAt (pts l bl) p).fi < (ptAt (pts l bl) q).fi) : (ptAt (pts l bl) p).la < (ptAt (pts l bl) q).fi := by
  rcases pts_inv hp with ⟨i, h1, h2, h3, h4⟩ | ⟨i, h1, h2, h3, h4⟩
  · rcases pts_inv hq with ⟨k, g1, g2, g3, g4⟩ | ⟨k, g1, g2, g3, g4⟩
    · rw [h4, g4] at ht hlt ⊢
      simp only [ptOfB] at ht hlt ⊢
      rcases Nat.lt_trichotomy i k with q | q | q
      · exact (h.pair i k q g1 ht).1
      · subst q; omega
      · have := h.inc k i q h1; omega
    · rw [h4, g4] at ht hlt ⊢
      simp only [ptOfB, ptOfE] at ht hlt ⊢
      by_cases hle : k ≤ (blAt bl i).last
      · have he : l[k]? = some (l.getD k ev0) := by simp [List.getD, List.getElem?_eq_getElem g1]
        have := h.evs i k _ h1 (by omega) hle he ht.symm
        rcases g2 with q | q <;> omega
      · omega
  · rw [h4] at hlt ⊢
    exact hlt
def HasE (l : List Ev) (P : List Pt) (p k : Nat) : Prop := (ptAt P p).fi ≤ k ∧ k ≤ (ptAt P p).la ∧ (l.getD k ev0).th = (ptAt P p).th
instance (l : List Ev) (P : List Pt) (p k : Nat) : Decidable (HasE l P p k) := inferInstanceAs (Decidable (_ ∧ _ ∧ _))
theorem hasE_one (h : BlkF l bl lk) {p q k : Nat} (hp : p < (pts l bl).length) (hq : q < (pts l bl).length) (h1 : HasE l (pts l bl) p k) (h2 : HasE l (pts l bl) q k) : p = q := by
  obtain ⟨a1, a2, a3⟩ := h1
  obtain ⟨b1, b2, b3⟩ := h2
  rcases Nat.lt_trichotomy (ptAt (pts l bl) p).fi (ptAt (pts l bl) q).fi with c | c | c
  · have := pts_apart h hp hq (a3.symm.trans b3) c
    omega
  · exact pts_fi h hp hq c
  · have := pts_apart h hq hp (b3.symm.trans a3) c
    omega
def ofS (l : List Ev) (P : List Pt) (s : List Nat) (k : Nat) : Int := match s.find? (fun p => decide (HasE l P p k)) with | some p => (p : Int) | none => -1
theorem ofS_some (h : BlkF l bl lk) {s : List Nat} (hs : ∀ p ∈ s, p < (pts l bl).length) {p k : Nat} (hp : p ∈ s) (hk : HasE l (pts l bl) p k) : ofS l (pts l bl) s k = (p : Int) := by
  unfold ofS
  cases hf : s.find? (fun p => decide (HasE l (pts l bl) p k)) with
  | none =>
    have := List.find?_eq_none.1 hf p hp
    simp [hk] at this
  | some q =>
    have h1 := List.find?_some hf
    have h2 := List.mem_of_find?_eq_some hf
    have h3 : HasE l (pts l bl) q k := of_decide_eq_true h1
    rw [hasE_one h (hs q h2) (hs p hp) h3 hk]
theorem ofS_none {P : List Pt} {s : List Nat} {k : Nat} (h : ∀ p ∈ s, ¬ HasE l P p k) : ofS l P s k = -1 := by
  unfold ofS
  have : s.find? (fun p => decide (HasE l P p k)) = none := List.find?_eq_none.2 fun p hp => by simpa using h p hp
  rw [this]
theorem ofS_perm (h : BlkF l bl lk) {s s' : List Nat} (hs : ∀ p ∈ s, p < (pts l bl).length) (hm : ∀ p, p ∈ s ↔ p ∈ s') (k : Nat) : ofS l (pts l bl) s k = ofS l (pts l bl) s' k := by
  by_cases hx : ∃ p ∈ s, HasE l (pts l bl) p k
  · obtain ⟨p, hp, hk⟩ := hx
    rw [ofS_some h hs hp hk, ofS_some h (fun p hp => hs p ((hm p).2 hp)) ((hm p).1 hp) hk]
  · have h1 : ∀ p ∈ s, ¬ HasE l (pts l bl) p k := fun p hp hk => hx ⟨p, hp, hk⟩
    rw [ofS_none h1, ofS_none fun p hp => h1 p ((hm p).2 hp)]
end
end Go.Proofs.Ytjifpjfinffamaa
end
