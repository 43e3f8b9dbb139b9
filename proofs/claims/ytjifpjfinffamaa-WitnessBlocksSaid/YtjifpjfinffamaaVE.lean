/- Walk: look.take: a write, a begin. -/
import Derived.Test.YtjifpjfinffamaaVD
namespace Go.Proofs.Ytjifpjfinffamaa
open Go.RowKit Go.Maps

theorem info214 : (Try.prog.info? 214).map (fun i => (i.zero, i.size, i.bytes)) = some (some (.agg #[.int .i64 0, .int .i64 0, .int .i64 0, .int .u64 0, .int .i64 0, .int .i64 0, .int .i64 0]), 7, 56) := by kernel_rfl
theorem fld_at {H S M R : Nat → Value} {n d a : Value} {t : Nat} (h8 : t < 8) : fld H S M R n d a (52 + t * 4) = H t ∧ fld H S M R n d a (52 + t * 4 + 1) = S t ∧ fld H S M R n d a (52 + t * 4 + 2) = M t ∧ fld H S M R n d a (52 + t * 4 + 3) = R t := by
  refine ⟨?_, ?_, ?_, ?_⟩
  · unfold fld
    rw [if_neg (by omega), if_neg (by omega), if_neg (by omega), if_neg (by omega), if_pos (by omega), show (52 + t * 4 - 52) / 4 = t by omega]
  · unfold fld
    rw [if_neg (by omega), if_neg (by omega), if_neg (by omega), if_neg (by omega), if_neg (by omega), if_pos (by omega), show (52 + t * 4 + 1 - 52) / 4 = t by omega]
  · unfold fld
    rw [if_neg (by omega), if_neg (by omega), if_neg (by omega), if_neg (by omega), if_neg (by omega), if_neg (by omega), if_pos (by omega), show (52 + t * 4 + 2 - 52) / 4 = t by omega]
  · unfold fld
    rw [if_neg (by omega), if_neg (by omega), if_neg (by omega), if_neg (by omega), if_neg (by omega), if_neg (by omega), if_neg (by omega), show (52 + t * 4 + 3 - 52) / 4 = t by omega]
theorem newTry (a b : Int) (M : Nat) : Shape M [.int .i64 a, .int .i64 b, .int .i64 0, .int .u64 0, .int .i64 0, .int .i64 0, .int .i64 0] := by
  intro q x hx
  match q, hx with
  | 0, hx => injection hx with hx; exact ⟨a, hx.symm, fun h => absurd h (by decide)⟩
  | 1, hx => injection hx with hx; exact ⟨b, hx.symm, fun h => absurd h (by decide)⟩
  | 2, hx => injection hx with hx; exact ⟨0, hx.symm, fun h => absurd h (by decide)⟩
  | 3, hx => injection hx with hx; exact ⟨0, hx.symm⟩
  | 4, hx => injection hx with hx; exact ⟨0, hx.symm, fun h => absurd h (by decide)⟩
  | 5, hx => injection hx with hx; exact ⟨0, hx.symm, fun _ => ⟨by omega, by omega⟩⟩
  | 6, hx => injection hx with hx; exact ⟨0, hx.symm, fun _ => ⟨by omega, by omega⟩⟩
  | q + 7, hx => simp at hx

set_option linter.unusedSimpArgs false in
set_option maxRecDepth 100000 in
set_option maxHeartbeats 6400000 in
theorem take_1 (base b m : Nat) (p : Int) (s : SS) (mp : Nat → Option Nat) (tr : Nat → Int) (hd : Int) (At : Option Addr) (ct nt : Nat) (vs : List Value) (e : Ev) (w : World) (he : e.Wd) (hm : m ≤ 1099511627776) (hI : LInv w base b m s mp tr hd At ct nt vs) (hput : putE s e = 0) (hq : e.kind = 1 ∧ (s.t e.th.toNat).how = 0) (hbase : base ≤ w.heap.size) :
    Calls Try.prog 118 #[.pointer (some ⟨b, 0, none⟩), .int .i64 p, evV e] w fun e' w' => e' = .returned (.tuple #[]) ∧ Below base w w' ∧ ∃ mp' tr' hd' At' ct' nt' vs', LInv w' base b (m + 1) (adv s e) mp' tr' hd' At' ct' nt' vs' := by
  obtain ⟨t, k, a, x, o, er⟩ := e
  simp only at hq
  have hF : Fm ⟨t, k, a, x, o, er⟩ := by
    unfold putE at hput
    split at hput
    · cases hput
    · rename_i h; exact Classical.not_not.1 h
  have hF1 := hF.1
  have hF2 := hF.2.1
  simp only at hF1 hF2
  obtain ⟨t, rfl⟩ := Int.eq_ofNat_of_zero_le hF1.1
  obtain ⟨k, rfl⟩ := Int.eq_ofNat_of_zero_le (show 0 ≤ k by omega)
  have hhr := hI.how t (by omega)
  obtain ⟨hw, hhw⟩ := Int.eq_ofNat_of_zero_le hhr.1
  simp only [Int.toNat_natCast, hhw] at hq
  have HQ := Lib.hid hq
  clear hq
  obtain ⟨h8, hk, hnx, hlk, _⟩ := put_ok hput hhw (by omega)
  have h4 : hw < 4 := by omega
  obtain ⟨tv, htv, _, hpos⟩ := tab_next h4 hk er
  have htv2 := hpos hnx
  have i1 : (0 : Int) ≤ (t : Int) := by omega
  have i2 : (t : Int) < 8 := by omega
  have i3 : (0 : Int) ≤ (k : Int) := by omega
  have i4 : (k : Int) < 13 := by omega
  have j1 : (0 : Int) ≤ (hw : Int) := by omega
  have j2 : (hw : Int) < 4 := by omega
  obtain ⟨ms, hM, hMO⟩ := hI.mem
  have HI := Lib.hid hI
  have HMG2 := Lib.hid (fun i x (hx : ms i = some x) => (hM.maps i x hx).2.lt)
  have HE := Lib.hid he
  have HHW := Lib.hid hhw
  have HNX := Lib.hid htv2
  have HN0 := Lib.hid hnx
  have HNXE := Lib.hid (show tv - 1 = nextI (s.t t).how (Ev.mk (t : Int) (k : Int) a x o er).kind (Ev.mk (t : Int) (k : Int) a x o er).err by rw [hhw]; exact htv2)
  have HLK := Lib.hid hlk
  have HTV := Lib.hid htv
  have HMO := Lib.hid hMO
  have HB := Lib.hid (((Below.refl w.heap.size w).alloc (Nat.le_refl _) (.cells #[.int .i64 t, .int .i64 k, .int .u64 a, .int .u64 x, .bool o, .int .i64 er] 97)).mono hbase)
  have HX := Lib.hid (BoxE.made w ⟨(t : Int), (k : Int), a, x, o, er⟩)
  have hM1 := hM.alloc (.cells #[.int .i64 t, .int .i64 k, .int .u64 a, .int .u64 x, .bool o, .int .i64 er] 97)
  rw [lF_fld] at hM1
  have HM := Lib.hid hM1
  have v1 : 1 ≤ tv := by omega
  have v2 : tv ≤ 4 := by have := next_le hw k er; omega
  clear hput hF hF1 hF2 hhr hhw hlk hM hM1 hMO hI he htv htv2 hpos hnx
  show Calls Try.prog 118 #[.pointer (some ⟨b, 0, none⟩), .int .i64 p, .agg #[.int .i64 t, .int .i64 k, .int .u64 a, .int .u64 x, .bool o, .int .i64 er]] w _
  go_enter Try.func118, Try.ntmps118
  have hgb : b ≠ w.heap.size := by have := HI.out.blk.lt.2; omega
  obtain ⟨hg, c0, c1, c2, c3, c4, c5⟩ := HX.out
  simp only at c0 c1 c2 c3 c4 c5
  go_wp2
  go_quiet (fail)
  have hbel : Below w.heap.size w ((w.alloc (.cells #[.int .i64 t, .int .i64 k, .int .u64 a, .int .u64 x, .bool o, .int .i64 er] 97)).drewN nq) := bdrewN ((Below.refl w.heap.size w).alloc (Nat.le_refl _) _) nq
  have hMW := HM.out.still (w' := (w.alloc (.cells #[.int .i64 t, .int .i64 k, .int .u64 a, .int .u64 x, .bool o, .int .i64 er] 97)).drewN nq) (fun _ _ => rfl)
  have hXW := HX.out.below (w' := (w.alloc (.cells #[.int .i64 t, .int .i64 k, .int .u64 a, .int .u64 x, .bool o, .int .i64 er] 97)).drewN nq) (bdrewN (Below.refl _ _) nq)
  have hBW := bdrewN HB.out nq
  have hIW := HI.out.kept hbel
  have HLT := Lib.hid (fun q hq => (hIW.trs.lt q hq).1 : ∀ q, (Value.slice At nt ct).ownBlock = some q → base ≤ q)
  have hgl : w.heap.size < ((w.alloc (.cells #[.int .i64 t, .int .i64 k, .int .u64 a, .int .u64 x, .bool o, .int .i64 er] 97)).drewN nq).heap.size := hXW.lt
  have HTG := Lib.hid (fun q hq => (HI.out.trs.lt q hq).2 : ∀ q, (Value.slice At nt ct).ownBlock = some q → q < w.heap.size)
  have HMG := Lib.hid (fun i x (hx : ms i = some x) => (hMW.maps i x hx).2.lt)
  clear HM HX HB hbel c0 c1 c2 c3 c4 c5 hg
  generalize ((w.alloc (.cells #[.int .i64 t, .int .i64 k, .int .u64 a, .int .u64 x, .bool o, .int .i64 er] 97)).drewN nq) = W at *
  obtain ⟨_, c0, c1, c2, c3, c4, c5⟩ := id hXW
  simp only at c0 c1 c2 c3 c4 c5
  generalize w.heap.size = g at *
  have hC := hIW.cells
  have d0 := hC.how t h8
  rw [HHW.out] at d0
  have f0 := (hIW.blk.cell (j := 52 + t * 4) (by omega)).2
  have d1 := hC.snap t h8
  have f1 := (hIW.blk.cell (j := 52 + t * 4 + 1) (by omega)).2
  have d2 := hC.map t h8
  have f2 := (hIW.blk.cell (j := 52 + t * 4 + 2) (by omega)).2
  have d3 := hC.try_ t h8
  have f3 := (hIW.blk.cell (j := 52 + t * 4 + 3) (by omega)).2
  have d4 := hC.num
  have f4 := (hIW.blk.cell (j := 84) (by omega)).2
  have d5 := hC.hd
  have f5 := (hIW.blk.cell (j := 85) (by omega)).2
  have d6 := hC.trs
  have f6 := (hIW.blk.cell (j := 86) (by omega)).2
  have dt := hC.tab (hw * 13 + k) (by omega)
  rw [HTV.out] at dt
  have HMW := Lib.hid hMW
  have HIW := Lib.hid hIW
  have HXW := Lib.hid hXW
  have HBW := Lib.hid hBW
  have hzW : base ≤ W.heap.size := Nat.le_of_lt (Nat.lt_of_le_of_lt hbase hgl)
  clear hC hIW hMW hBW hXW
  obtain ⟨rfl, rfl⟩ : k = 1 ∧ hw = 0 := by have := HQ.out; omega
  clear HQ
  simp only [Nat.zero_mul, Nat.zero_add, Nat.one_mul, Nat.reduceMul, Nat.reduceAdd] at dt
  have hmm := @run_makeMap Try.prog
  have hbb : base ≤ b := HI.out.blk.lt.1
  have hbW : b < W.heap.size := HMW.out.blk.lt.2
  have hwb : W.heap.size ≠ b := by omega
  have hbg3 : g ≠ b := fun e => hgb e.symm
  have hne0 : some b ≠ (Value.slice At nt ct).ownBlock := fun e => HMW.out.trs_ne e.symm
  have hneg0 : some g ≠ (Value.slice At nt ct).ownBlock := fun e => by have := HTG.out g e.symm; omega
  have hnt := HI.out.few
  have hs3 : ((W.setCell ⟨b, 52 + t * 4 + 2, none⟩ (.map (some W.heap.size))).setCell ⟨b, 52 + t * 4 + 3, none⟩ (.int .i64 (nt : Int))).heap.size = W.heap.size := by simp
  have hM3 := (((HMW.out.more (Nat.le_succ m)).setMap h8 (.map (some W.heap.size))).setTry h8 (.int .i64 (nt : Int))).newmap (by rw [hs3]; exact hzW) t
  rw [hs3] at hM3
  have HM3 := Lib.hid hM3
  have hB3 := ((HBW.out.setCell (p := ⟨b, 52 + t * 4 + 2, none⟩) hbb (.map (some W.heap.size))).setCell (p := ⟨b, 52 + t * 4 + 3, none⟩) hbb (.int .i64 (nt : Int))).alloc (by rw [hs3]; exact hzW) (.map #[] 0)
  have HB3 := Lib.hid hB3
  have HOW := Lib.hid hM3.trs
  clear hM3 hB3 hs3
  have hq4 : W.alloc (.map #[] 0) = W.alloc (.map #[] 0) := rfl
  clear hq4
  go_wp2
  generalize hW3 : ((W.setCell ⟨b, 52 + t * 4 + 2, none⟩ (.map (some W.heap.size))).setCell ⟨b, 52 + t * 4 + 3, none⟩ (.int .i64 (nt : Int))).alloc (.map #[] 0) = W3 at *
  have hcc : ∀ (j : Nat) (v : Value), W.cell? ⟨g, j, none⟩ = some v → W3.cell? ⟨g, j, none⟩ = some v := fun j v h => by
    rw [← hW3]
    exact (World.grownBy_alloc _ (.map #[] 0) none).cell ((grown_set _ _ _).cell ((grown_set _ _ _).cell h (by simp; omega)) (by simp; omega)) (by simp)
  have c0' := hcc _ _ c0
  have c1' := hcc _ _ c1
  have c3' := hcc _ _ c3
  have hz3 : base ≤ W3.heap.size := by rw [← hW3]; simp; omega
  have hb3 : b < W3.heap.size := HM3.out.blk.lt.2
  have hg3 : g < W3.heap.size := by rw [← hW3]; simp; omega
  have d6' : W3.cell? ⟨b, 86, none⟩ = some (.slice At nt ct) := (HM3.out.blk.cell (j := 86) (by omega)).1
  have f6' := (HM3.out.blk.cell (j := 86) (by omega)).2
  have HH3 := Lib.hid hW3
  have HCC := Lib.hid hcc
  clear hW3 hcc c0 c1 c2 c3 c4 c5 d0 d1 d2 d3 d4 d5 d6 f0 f1 f2 f3 f4 f5 f6 HMW HBW HIW HXW hgl hbW hwb
  go_region_law
    ((refine step_append_two _ (by rfl) (.tmp 33) (.tmp 38) 191 (by rfl) base 214 _ 7 56 info214 Try.underlying191 rfl (by decide) (.slice At nt ct) nt vs (by rfl) ((World.ownsRow.drew HM3.out.trs).alloc _) (W3.heap.size) 1 [.int .i64 (t : Int), .int .i64 p, .int .i64 0, .int .u64 0, .int .i64 0, .int .i64 0, .int .i64 0] (by rfl) (heap_at _ _ _ (by simp)) rfl (by simp [Value.oneCell']) (by omega) (by omega) (by simp; omega) ?_; intro g2 cap2 w5 hown5 hlt5 htwo; have hq2 : w5.cell? ⟨b, 86, none⟩ = some (.slice At nt ct) := (two_grown htwo).cell (by simp [World.cell?_alloc_some, d6']) hne0; have hq3 : w5.frozen? ⟨b, 86, none⟩ = false := grown_frozen (two_grown htwo) (by simp; omega) hne0 (by simp [frozen?_alloc_cells, f6'])))
  all_goals
    have hgr := grown_trans (grown_trans (grown_drew W3 _) (World.grownBy_alloc _ _ _)) (two_grown htwo)
    have hA := LMem.appended HM3.out (newTry _ _ _) hown5 hgr
    have hM6 := hA.setTrs (.slice (some ⟨g2, 0, none⟩) (nt + 1) cap2)
    have hB6 := (HB3.out.grown hgr hz3 (fun q hq => (HM3.out.trs.lt q hq).1)).setCell (p := ⟨b, 86, none⟩) hbb (.slice (some ⟨g2, 0, none⟩) (nt + 1) cap2)
    have hc : ∀ (j : Nat) (v : Value), W3.cell? ⟨g, j, none⟩ = some v → (w5.setCell ⟨b, 86, none⟩ (.slice (some ⟨g2, 0, none⟩) (nt + 1) cap2)).cell? ⟨g, j, none⟩ = some v := fun j v h => (grown_set _ _ _).cell (hgr.cell h hneg0) (by simp; omega)
    have k0 := hc _ _ c0'
    have k1 := hc _ _ c1'
    have k3 := hc _ _ c3'
    have hbt : base ≤ g2 := (hA.trs.lt g2 rfl).1
    have hbg : b ≠ g2 := fun e => hM6.trs_ne (congrArg some e.symm)
    have hbg2 : g2 ≠ b := fun e => hbg e.symm
    have HM6 := Lib.hid hM6
    have HB6 := Lib.hid hB6
    clear hgr hA hM6 hB6 hc c0' c1' c3' hown5 htwo hlt5 hq2 hq3 d6' f6'
    generalize w5.setCell ⟨b, 86, none⟩ (.slice (some ⟨g2, 0, none⟩) (nt + 1) cap2) = W6 at *
    have d0 : W6.cell? ⟨b, 52 + t * 4, none⟩ = some (.int .i64 0) := by rw [(HM6.out.blk.cell (j := 52 + t * 4) (by omega)).1, (fld_at h8).1, HHW.out]; rfl
    have d1 : W6.cell? ⟨b, 52 + t * 4 + 1, none⟩ = some (.int .u64 (s.t t).snap) := by rw [(HM6.out.blk.cell (j := 52 + t * 4 + 1) (by omega)).1, (fld_at h8).2.1]
    have d3 : W6.cell? ⟨b, 52 + t * 4 + 3, none⟩ = some (.int .i64 (nt : Int)) := by rw [(HM6.out.blk.cell (j := 52 + t * 4 + 3) (by omega)).1, (fld_at h8).2.2.2]; simp [upf]
    have d6 : W6.cell? ⟨b, 86, none⟩ = some (.slice (some ⟨g2, 0, none⟩) (nt + 1) cap2) := by rw [(HM6.out.blk.cell (j := 86) (by omega)).1]; rfl
    have d7 : W6.cell? ⟨b, 1, none⟩ = some (.int .i64 tv) := by rw [(HM6.out.blk.cell (j := 1) (by omega)).1]; exact congrArg some HTV.out
    have f0 := (HM6.out.blk.cell (j := 52 + t * 4) (by omega)).2
    have f1 := (HM6.out.blk.cell (j := 52 + t * 4 + 1) (by omega)).2
    obtain ⟨⟨y2, e2, hy2⟩, g2'⟩ := HM6.out.attempt_at (q := nt * 7 + 2) (by omega)
    rw [if_neg (by omega)] at hy2
    obtain ⟨y2, rfl, _⟩ := hy2
    obtain ⟨⟨y3, e3, hy3⟩, g3'⟩ := HM6.out.attempt_at (q := nt * 7 + 3) (by omega)
    rw [if_pos (by omega)] at hy3
    obtain ⟨y3, rfl⟩ := hy3
    have r1 : (0 : Int) ≤ (nt : Int) := by omega
    have r2 : (nt : Int) < ((nt + 1 : Nat) : Int) := by omega
    have r3 : (nt : Int) < (nt : Int) + 1 := by omega
    go_wp2
    go_quiet (fail)
    go_wp2
    go_region
    all_goals
      go_wp2
      go_region
      go_wp2
      go_end0
      obtain ⟨vs1, hM1⟩ := LMem.attempt (HM6.out.still (w' := W6.drewN nq) (fun _ _ => rfl)) (nt * 7 + 2) (.int .i64 p) (by rw [if_neg (by omega)]; exact ⟨_, rfl, fun h => by omega⟩)
      have hM2 := LMem.setSnap hM1 h8 (.int .u64 x)
      obtain ⟨vs3, hM3⟩ := LMem.attempt hM2 (nt * 7 + 3) (.int .u64 x) (by rw [if_pos (by omega)]; exact ⟨_, rfl⟩)
      have hM4 := LMem.setHow hM3 h8 (.int .i64 (tv - 1))
      rw [upf_map, upf_try (tr := tr)] at hM4
      have hv0 : tv - 1 = 1 := by rw [HNX.out]; simp [nextI]
      have hBF := ((((bdrewN HB6.out nq).setCell (p := ⟨g2, nt * 7 + 2, none⟩) hbt (.int .i64 p)).setCell (p := ⟨b, 52 + t * 4 + 1, none⟩) hbb (.int .u64 x)).setCell (p := ⟨g2, nt * 7 + 3, none⟩) hbt (.int .u64 x)).setCell (p := ⟨b, 52 + t * 4, none⟩) hbb (.int .i64 (tv - 1))
      exact ⟨rfl, hBF.drew.drew, fun i => if i = t then some W.heap.size else mp i, fun i => if i = t then (nt : Int) else tr i, hd, some ⟨g2, 0, none⟩, cap2, nt + 1, vs3, LMem.fin (t := t) (nx := tv - 1) HI.out (by rw [adv_fld s _ (t := t) (by simp) HNXE.out, if_pos (by simp), if_neg (by simp)]; exact hM4.drew.drew) (by simp) HE.out (by omega) HNXE.out HMO.out (fun i hi => ⟨by simp [hi], by simp [upm, hi], by simp [hi]⟩) ⟨Nat.le_succ _, Nat.succ_le_succ HI.out.few⟩ (fun _ => ⟨W.heap.size, 0, .map [], by simp [upm], by simp, by omega, by simpa [advT] using MDw.start⟩) (fun _ => by simp; omega) (hold_same (t := t) HI.out (by simp) HNXE.out (by omega) (by rw [HHW.out]; decide))⟩


set_option linter.unusedSimpArgs false in
set_option maxRecDepth 100000 in
set_option maxHeartbeats 6400000 in
theorem take_3 (base b m : Nat) (p : Int) (s : SS) (mp : Nat → Option Nat) (tr : Nat → Int) (hd : Int) (At : Option Addr) (ct nt : Nat) (vs : List Value) (e : Ev) (w : World) (he : e.Wd) (hm : m ≤ 1099511627776) (hI : LInv w base b m s mp tr hd At ct nt vs) (hput : putE s e = 0) (hq : e.kind = 3 ∧ (s.t e.th.toNat).how = 1) (hbase : base ≤ w.heap.size) :
    Calls Try.prog 118 #[.pointer (some ⟨b, 0, none⟩), .int .i64 p, evV e] w fun e' w' => e' = .returned (.tuple #[]) ∧ Below base w w' ∧ ∃ mp' tr' hd' At' ct' nt' vs', LInv w' base b (m + 1) (adv s e) mp' tr' hd' At' ct' nt' vs' := by
  obtain ⟨t, k, a, x, o, er⟩ := e
  simp only at hq
  have hF : Fm ⟨t, k, a, x, o, er⟩ := by
    unfold putE at hput
    split at hput
    · cases hput
    · rename_i h; exact Classical.not_not.1 h
  have hF1 := hF.1
  have hF2 := hF.2.1
  simp only at hF1 hF2
  obtain ⟨t, rfl⟩ := Int.eq_ofNat_of_zero_le hF1.1
  obtain ⟨k, rfl⟩ := Int.eq_ofNat_of_zero_le (show 0 ≤ k by omega)
  have hhr := hI.how t (by omega)
  obtain ⟨hw, hhw⟩ := Int.eq_ofNat_of_zero_le hhr.1
  simp only [Int.toNat_natCast, hhw] at hq
  have HQ := Lib.hid hq
  clear hq
  obtain ⟨h8, hk, hnx, hlk, _⟩ := put_ok hput hhw (by omega)
  have h4 : hw < 4 := by omega
  obtain ⟨tv, htv, _, hpos⟩ := tab_next h4 hk er
  have htv2 := hpos hnx
  have i1 : (0 : Int) ≤ (t : Int) := by omega
  have i2 : (t : Int) < 8 := by omega
  have i3 : (0 : Int) ≤ (k : Int) := by omega
  have i4 : (k : Int) < 13 := by omega
  have j1 : (0 : Int) ≤ (hw : Int) := by omega
  have j2 : (hw : Int) < 4 := by omega
  obtain ⟨ms, hM, hMO⟩ := hI.mem
  have HI := Lib.hid hI
  have HMG2 := Lib.hid (fun i x (hx : ms i = some x) => (hM.maps i x hx).2.lt)
  have HE := Lib.hid he
  have HHW := Lib.hid hhw
  have HNX := Lib.hid htv2
  have HN0 := Lib.hid hnx
  have HNXE := Lib.hid (show tv - 1 = nextI (s.t t).how (Ev.mk (t : Int) (k : Int) a x o er).kind (Ev.mk (t : Int) (k : Int) a x o er).err by rw [hhw]; exact htv2)
  have HLK := Lib.hid hlk
  have HTV := Lib.hid htv
  have HMO := Lib.hid hMO
  have HB := Lib.hid (((Below.refl w.heap.size w).alloc (Nat.le_refl _) (.cells #[.int .i64 t, .int .i64 k, .int .u64 a, .int .u64 x, .bool o, .int .i64 er] 97)).mono hbase)
  have HX := Lib.hid (BoxE.made w ⟨(t : Int), (k : Int), a, x, o, er⟩)
  have hM1 := hM.alloc (.cells #[.int .i64 t, .int .i64 k, .int .u64 a, .int .u64 x, .bool o, .int .i64 er] 97)
  rw [lF_fld] at hM1
  have HM := Lib.hid hM1
  have v1 : 1 ≤ tv := by omega
  have v2 : tv ≤ 4 := by have := next_le hw k er; omega
  clear hput hF hF1 hF2 hhr hhw hlk hM hM1 hMO hI he htv htv2 hpos hnx
  show Calls Try.prog 118 #[.pointer (some ⟨b, 0, none⟩), .int .i64 p, .agg #[.int .i64 t, .int .i64 k, .int .u64 a, .int .u64 x, .bool o, .int .i64 er]] w _
  go_enter Try.func118, Try.ntmps118
  have hgb : b ≠ w.heap.size := by have := HI.out.blk.lt.2; omega
  obtain ⟨hg, c0, c1, c2, c3, c4, c5⟩ := HX.out
  simp only at c0 c1 c2 c3 c4 c5
  go_wp2
  go_quiet (fail)
  have hbel : Below w.heap.size w ((w.alloc (.cells #[.int .i64 t, .int .i64 k, .int .u64 a, .int .u64 x, .bool o, .int .i64 er] 97)).drewN nq) := bdrewN ((Below.refl w.heap.size w).alloc (Nat.le_refl _) _) nq
  have hMW := HM.out.still (w' := (w.alloc (.cells #[.int .i64 t, .int .i64 k, .int .u64 a, .int .u64 x, .bool o, .int .i64 er] 97)).drewN nq) (fun _ _ => rfl)
  have hXW := HX.out.below (w' := (w.alloc (.cells #[.int .i64 t, .int .i64 k, .int .u64 a, .int .u64 x, .bool o, .int .i64 er] 97)).drewN nq) (bdrewN (Below.refl _ _) nq)
  have hBW := bdrewN HB.out nq
  have hIW := HI.out.kept hbel
  have HLT := Lib.hid (fun q hq => (hIW.trs.lt q hq).1 : ∀ q, (Value.slice At nt ct).ownBlock = some q → base ≤ q)
  have hgl : w.heap.size < ((w.alloc (.cells #[.int .i64 t, .int .i64 k, .int .u64 a, .int .u64 x, .bool o, .int .i64 er] 97)).drewN nq).heap.size := hXW.lt
  have HTG := Lib.hid (fun q hq => (HI.out.trs.lt q hq).2 : ∀ q, (Value.slice At nt ct).ownBlock = some q → q < w.heap.size)
  have HMG := Lib.hid (fun i x (hx : ms i = some x) => (hMW.maps i x hx).2.lt)
  clear HM HX HB hbel c0 c1 c2 c3 c4 c5 hg
  generalize ((w.alloc (.cells #[.int .i64 t, .int .i64 k, .int .u64 a, .int .u64 x, .bool o, .int .i64 er] 97)).drewN nq) = W at *
  obtain ⟨_, c0, c1, c2, c3, c4, c5⟩ := id hXW
  simp only at c0 c1 c2 c3 c4 c5
  generalize w.heap.size = g at *
  have hC := hIW.cells
  have d0 := hC.how t h8
  rw [HHW.out] at d0
  have f0 := (hIW.blk.cell (j := 52 + t * 4) (by omega)).2
  have d1 := hC.snap t h8
  have f1 := (hIW.blk.cell (j := 52 + t * 4 + 1) (by omega)).2
  have d2 := hC.map t h8
  have f2 := (hIW.blk.cell (j := 52 + t * 4 + 2) (by omega)).2
  have d3 := hC.try_ t h8
  have f3 := (hIW.blk.cell (j := 52 + t * 4 + 3) (by omega)).2
  have d4 := hC.num
  have f4 := (hIW.blk.cell (j := 84) (by omega)).2
  have d5 := hC.hd
  have f5 := (hIW.blk.cell (j := 85) (by omega)).2
  have d6 := hC.trs
  have f6 := (hIW.blk.cell (j := 86) (by omega)).2
  have dt := hC.tab (hw * 13 + k) (by omega)
  rw [HTV.out] at dt
  have HMW := Lib.hid hMW
  have HIW := Lib.hid hIW
  have HXW := Lib.hid hXW
  have HBW := Lib.hid hBW
  have hzW : base ≤ W.heap.size := Nat.le_of_lt (Nat.lt_of_le_of_lt hbase hgl)
  clear hC hIW hMW hBW hXW
  obtain ⟨rfl, rfl⟩ : k = 3 ∧ hw = 1 := by have := HQ.out; omega
  clear HQ
  simp only [Nat.zero_mul, Nat.zero_add, Nat.one_mul, Nat.reduceMul, Nat.reduceAdd] at dt
  obtain ⟨hta, htb⟩ := (HIW.out.maps t h8 (by rw [HHW.out]; exact .inl rfl)).2
  obtain ⟨r, hr⟩ := Int.eq_ofNat_of_zero_le hta
  have hrn : r < nt := by omega
  obtain ⟨gt, cap', hv, _, hgt⟩ := HIW.out.trs.form (by omega)
  injection hv with hv1 _ hv3
  subst hv1 hv3
  have hbg : b ≠ gt := fun e => HMW.out.trs_ne (congrArg some e.symm)
  have hbg2 : gt ≠ b := fun e => hbg e.symm
  have hgtg : gt < g := HTG.out gt rfl
  have hgt2 : gt ≠ g := by omega
  have hgt3 : g ≠ gt := by omega
  have hbg3 : g ≠ b := fun e => hgb e.symm
  have r1 : (0 : Int) ≤ (r : Int) := by omega
  have r2 : (r : Int) < (nt : Int) := by omega
  have hbb : base ≤ b := HI.out.blk.lt.1
  have hbt : base ≤ gt := HLT.out gt rfl
  rw [hr] at d3
  go_wp2
  go_quiet (fail)
  have hIV := HIW.out.kept (bdrewN (Below.refl _ _) nq)
  have hMV := HMW.out.still (w' := W.drewN nq) (fun _ _ => rfl)
  have hXV := HXW.out.below (bdrewN (Below.refl _ _) nq)
  have hBV := bdrewN HBW.out nq
  have hzV : base ≤ (W.drewN nq).heap.size := hzW
  clear c0 c1 c2 c3 c4 c5 d0 d1 d2 d3 d4 d5 d6 f0 f1 f2 f3 f4 f5 f6 HIW HMW HXW HBW hzW hgl hgt
  have dtV : (W.drewN nq).cell? ⟨b, _, none⟩ = _ := dt
  clear dt
  generalize W.drewN nq = V at *
  obtain ⟨_, c0, c1, c2, c3, c4, c5⟩ := id hXV
  simp only at c0 c1 c2 c3 c4 c5
  have hC := hIV.cells
  have d0 := hC.how t h8
  have f0 := (hIV.blk.cell (j := 52 + t * 4) (by omega)).2
  have d1 := hC.snap t h8
  have f1 := (hIV.blk.cell (j := 52 + t * 4 + 1) (by omega)).2
  have d2 := hC.map t h8
  have f2 := (hIV.blk.cell (j := 52 + t * 4 + 2) (by omega)).2
  have d3 := hC.try_ t h8
  have f3 := (hIV.blk.cell (j := 52 + t * 4 + 3) (by omega)).2
  have d4 := hC.num
  have f4 := (hIV.blk.cell (j := 84) (by omega)).2
  have d5 := hC.hd
  have f5 := (hIV.blk.cell (j := 85) (by omega)).2
  have d6 := hC.trs
  have f6 := (hIV.blk.cell (j := 86) (by omega)).2
  rw [HHW.out] at d0
  rw [hr] at d3
  obtain ⟨⟨y2, e2, hy2⟩, g2⟩ := hMV.attempt_at (q := r * 7 + 2) (by omega)
  rw [if_neg (by omega)] at hy2
  obtain ⟨y2, rfl, z2⟩ := hy2
  clear z2
  obtain ⟨⟨y3, e3, hy3⟩, g3⟩ := hMV.attempt_at (q := r * 7 + 3) (by omega)
  rw [if_pos (by omega)] at hy3
  obtain ⟨y3, rfl⟩ := hy3
  obtain ⟨⟨y4, e4, hy4⟩, g4⟩ := hMV.attempt_at (q := r * 7 + 4) (by omega)
  rw [if_neg (by omega)] at hy4
  obtain ⟨y4, rfl, z4⟩ := hy4
  clear z4
  obtain ⟨⟨y5, e5, hy5⟩, g5⟩ := hMV.attempt_at (q := r * 7 + 5) (by omega)
  rw [if_neg (by omega)] at hy5
  obtain ⟨y5, rfl, z5⟩ := hy5
  have za5 := (z5 (by omega)).1
  have zb5 := (z5 (by omega)).2
  clear z5
  obtain ⟨⟨y6, e6, hy6⟩, g6⟩ := hMV.attempt_at (q := r * 7 + 6) (by omega)
  rw [if_neg (by omega)] at hy6
  obtain ⟨y6, rfl, z6⟩ := hy6
  have za6 := (z6 (by omega)).1
  have zb6 := (z6 (by omega)).2
  clear z6
  have HMV := Lib.hid hMV
  have HBV := Lib.hid hBV
  have HIV := Lib.hid hIV
  have HXV := Lib.hid hXV
  clear hC hIV hMV hXV hBV
  obtain ⟨g', n', D', a1, a2, a3, a4⟩ := HMO.out t h8 (by rw [HHW.out]; exact .inl rfl)
  rw [a2] at d2
  obtain ⟨vs1, hM1⟩ := LMem.attempt HMV.out (r * 7 + 2) (.int .i64 p) (by rw [if_neg (by omega)]; exact ⟨_, rfl, fun h => by omega⟩)
  have hg1 := grown_set V ⟨gt, r * 7 + 2, none⟩ (.int .i64 p)
  obtain ⟨Wf, hrun, hMf, hgr⟩ := LMem.filled hM1.drew a1 (by unfold maxLen; omega) HE.out.1 HE.out.2
  have hgb' : g' ≠ b := HMV.out.map_ne a1
  have hgg' : g' < g := HMG2.out t _ a1
  have hgt' : gt ≠ g' := fun e => HMV.out.map_trs a1 (congrArg some e)
  have qc1 : Wf.cell? ⟨g, 1, none⟩ = some (.int .i64 3) := hgr.cell (hg1.cell c1 (by simp; omega)) (by simp; omega)
  have qd0 : Wf.cell? ⟨b, 52 + t * 4, none⟩ = some (.int .i64 1) := hgr.cell (hg1.cell d0 (by simp; omega)) (by simp; omega)
  have qdt : Wf.cell? ⟨b, 16, none⟩ = some (.int .i64 tv) := hgr.cell (hg1.cell dtV (by simp; omega)) (by simp; omega)
  have qf0 : Wf.frozen? ⟨b, 52 + t * 4, none⟩ = false := (hMf.blk.cell (j := 52 + t * 4) (by omega)).2
  obtain ⟨⟨yw, ew, hyw⟩, gw⟩ := hMf.attempt_at (q := r * 7 + 6) (by omega)
  rw [if_neg (by omega)] at hyw
  obtain ⟨yw, rfl, zw⟩ := hyw
  have zwa := (zw (by omega)).1
  have zwb := (zw (by omega)).2
  clear zw
  have HMf := Lib.hid hMf
  have HG1 := Lib.hid hg1
  have HGR := Lib.hid hgr
  have A1 := Lib.hid a1
  have A2 := Lib.hid a2
  have A4 := Lib.hid a4
  clear hMf hg1 hgr a1 a2 a4 hM1 e6 g6 za6 zb6
  go_wp2
  go_region
  go_wp2
  go_region
  go_wp2
  go_end0
  obtain ⟨vs2, hM2⟩ := LMem.attempt (HMf.out.more (Nat.le_succ m)) (r * 7 + 6) (.int .i64 (yw + 1)) (by rw [if_neg (by omega)]; exact ⟨_, rfl, fun _ => by omega⟩)
  have hM3 := LMem.setHow hM2 h8 (.int .i64 (tv - 1))
  have hv0 : tv - 1 = 1 := by rw [HNX.out]; simp [nextI]
  have hBF := ((Below.grown (HBV.out.setCell (p := ⟨gt, r * 7 + 2, none⟩) hbt (.int .i64 p)).drew HGR.out (by simpa using hzV) (fun q hq => by injection hq with hq; rw [← hq]; exact (HMV.out.maps t _ A1.out).1)).setCell (p := ⟨gt, r * 7 + 6, none⟩) hbt (.int .i64 (yw + 1))).setCell (p := ⟨b, 52 + t * 4, none⟩) hbb (.int .i64 (tv - 1))
  exact ⟨rfl, hBF.drew, mp, tr, hd, some ⟨gt, 0, none⟩, ct, nt, vs2, LMem.fin (t := t) (nx := tv - 1) HI.out (by rw [adv_fld s _ (t := t) (by simp) HNXE.out, if_neg (by simp), if_neg (by simp)]; exact hM3.drew) (by simp) HE.out (by omega) HNXE.out HMO.out (fun i hi => ⟨rfl, by simp [upm, hi], rfl⟩) ⟨Nat.le_refl _, Nat.le_succ_of_le HI.out.few⟩ (fun _ => ⟨g', n' + 1, D'.put (lu a) (.lit (lu x)), by simp only [upm, if_true], A2.out, by omega, by simpa [advT] using A4.out.put a x⟩) (fun _ => (HI.out.maps t h8 (by rw [HHW.out]; exact .inl rfl)).2) (hold_same (t := t) HI.out (by simp) HNXE.out (by omega) (by rw [HHW.out]; decide))⟩

theorem take_any (base b m : Nat) (p : Int) (s : SS) (mp : Nat → Option Nat) (tr : Nat → Int) (hd : Int) (At : Option Addr) (ct nt : Nat) (vs : List Value) (e : Ev) (w : World) (he : e.Wd) (hm : m ≤ 1099511627776) (hI : LInv w base b m s mp tr hd At ct nt vs) (hput : putE s e = 0) (hbase : base ≤ w.heap.size) :
    Calls Try.prog 118 #[.pointer (some ⟨b, 0, none⟩), .int .i64 p, evV e] w fun e' w' => e' = .returned (.tuple #[]) ∧ Below base w w' ∧ ∃ mp' tr' hd' At' ct' nt' vs', LInv w' base b (m + 1) (adv s e) mp' tr' hd' At' ct' nt' vs' := by
  have hF : Fm e := by
    unfold putE at hput
    split at hput
    · cases hput
    · rename_i h; exact Classical.not_not.1 h
  obtain ⟨t, ht⟩ := Int.eq_ofNat_of_zero_le hF.1.1
  obtain ⟨k, hk⟩ := Int.eq_ofNat_of_zero_le (show 0 ≤ e.kind by have := hF.2.1; omega)
  have h8 : t < 8 := by have := hF.1; omega
  have hhr := hI.how t h8
  obtain ⟨hw, hhw⟩ := Int.eq_ofNat_of_zero_le hhr.1
  have htt : e.th.toNat = t := by omega
  have hq : ∀ {x y : Int}, e.kind = x → (hw : Int) = y → e.kind = x ∧ (s.t e.th.toNat).how = y := fun h1 h2 => ⟨h1, by rw [htt, hhw]; exact h2⟩
  have hcl : (k = 1 ∧ hw = 0) ∨ (k = 2 ∧ hw = 1) ∨ (k = 3 ∧ hw = 1) ∨ (k = 4 ∧ hw = 1) ∨ (k = 5 ∧ hw = 1) ∨ (k = 6 ∧ hw = 1) ∨ (k = 6 ∧ hw = 2) ∨ ((k = 7 ∨ k = 8 ∨ k = 9) ∧ hw = 1) ∨ ((k = 9 ∨ k = 10 ∨ k = 11 ∨ k = 12) ∧ hw = 0) := by
    obtain ⟨et, ek, ea, ex, eo, er⟩ := e
    simp only at ht hk
    subst ht hk
    exact (put_ok hput hhw (by omega)).2.2.2.2
  rcases hcl with ⟨h1, h2⟩ | ⟨h1, h2⟩ | ⟨h1, h2⟩ | ⟨h1, h2⟩ | ⟨h1, h2⟩ | ⟨h1, h2⟩ | ⟨h1, h2⟩ | ⟨h1 | h1 | h1, h2⟩ | ⟨h1, h2⟩
  · exact take_1 base b m p s mp tr hd At ct nt vs e w he hm hI hput (hq (by omega) (by omega)) hbase
  · exact take_2 base b m p s mp tr hd At ct nt vs e w he hm hI hput (hq (by omega) (by omega)) hbase
  · exact take_3 base b m p s mp tr hd At ct nt vs e w he hm hI hput (hq (by omega) (by omega)) hbase
  · exact take_4 base b m p s mp tr hd At ct nt vs e w he hI hput (hq (by omega) (by omega)) hbase
  · exact take_5 base b m p s mp tr hd At ct nt vs e w he hI hput (hq (by omega) (by omega)) hbase
  · exact take_6 base b m p s mp tr hd At ct nt vs e w he hI hput (hq (by omega) (by omega)) hbase
  · exact take_6h base b m p s mp tr hd At ct nt vs e w he hI hput (hq (by omega) (by omega)) hbase
  · exact take_7 base b m p s mp tr hd At ct nt vs e w he hI hput (hq (by omega) (by omega)) hbase
  · exact take_8 base b m p s mp tr hd At ct nt vs e w he hI hput (hq (by omega) (by omega)) hbase
  · exact take_9 base b m p s mp tr hd At ct nt vs e w he hI hput (hq (by omega) (by omega)) hbase
  · exact take_0 base b m p s mp tr hd At ct nt vs e w he hI hput ⟨by omega, by rw [htt, hhw]; omega⟩ hbase
end Go.Proofs.Ytjifpjfinffamaa
