/- Texts VD, laid together. -/
import Derived.Test.YtjifpjfinffamaaZ10
import Derived.BigRegion
import Derived.Deep.RegionWith
import Derived.Deep.RegionHeld
import Derived.Deep.RegionLaw
section
namespace Go.Proofs.Ytjifpjfinffamaa
open Go.RowKit Go.Maps
theorem put_ok {s : SS} {t k : Nat} {a x er : Int} {o : Bool} {hw : Nat} (hp : putE s ⟨(t : Int), (k : Int), a, x, o, er⟩ = 0) (hhw : (s.t t).how = (hw : Int)) (h4 : hw < 4) :
    t < 8 ∧ (1 ≤ k ∧ k ≤ 12) ∧ 0 ≤ nextI hw k er ∧ ((LockK k) → lockedB s t = false) ∧ ((k = 1 ∧ hw = 0) ∨ (k = 2 ∧ hw = 1) ∨ (k = 3 ∧ hw = 1) ∨ (k = 4 ∧ hw = 1) ∨ (k = 5 ∧ hw = 1) ∨ (k = 6 ∧ hw = 1) ∨ (k = 6 ∧ hw = 2) ∨ ((k = 7 ∨ k = 8 ∨ k = 9) ∧ hw = 1) ∨ ((k = 9 ∨ k = 10 ∨ k = 11 ∨ k = 12) ∧ hw = 0)) := by
  unfold putE at hp
  split at hp
  · cases hp
  · rename_i hF
    have hF := Classical.not_not.1 hF
    have h1 := hF.1
    have h2 := hF.2.1
    simp only at h1 h2
    split at hp
    · cases hp
    · rename_i hn
      simp only [Int.toNat_natCast, hhw] at hn
      split at hp
      · cases hp
      · rename_i hl
        simp only [Int.toNat_natCast] at hl
        refine ⟨by omega, by omega, by omega, fun h => by
          cases q : lockedB s t with
          | false => rfl
          | true => exact absurd ⟨h, q⟩ hl, ?_⟩
        have hk : k = 1 ∨ k = 2 ∨ k = 3 ∨ k = 4 ∨ k = 5 ∨ k = 6 ∨ k = 7 ∨ k = 8 ∨ k = 9 ∨ k = 10 ∨ k = 11 ∨ k = 12 := by omega
        have hh : hw = 0 ∨ hw = 1 ∨ hw = 2 ∨ hw = 3 := by omega
        rcases hh with rfl | rfl | rfl | rfl <;> rcases hk with rfl | rfl | rfl | rfl | rfl | rfl | rfl | rfl | rfl | rfl | rfl | rfl <;> simp [nextI] at hn ⊢
theorem LMem.drew {w : World} {base b : Nat} {f : Nat → Value} {At : Option Addr} {ct nt : Nat} {vs : List Value} {ms : Nat → Option MP} {M : Nat} (h : LMem w base b f At ct nt vs ms M) : LMem w.drew base b f At ct nt vs ms M := h.still fun _ _ => rfl
theorem next_le (a b c : Int) : nextI a b c ≤ 3 := by
  unfold nextI
  repeat (split <;> try omega)
set_option linter.unusedSimpArgs false in
set_option maxRecDepth 100000 in
set_option maxHeartbeats 6400000 in
theorem take_2 (base b m : Nat) (p : Int) (s : SS) (mp : Nat → Option Nat) (tr : Nat → Int) (hd : Int) (At : Option Addr) (ct nt : Nat) (vs : List Value) (e : Ev) (w : World) (he : e.Wd) (hm : m ≤ 1099511627776) (hI : LInv w base b m s mp tr hd At ct nt vs) (hput : putE s e = 0) (hq : e.kind = 2 ∧ (s.t e.th.toNat).how = 1) (hbase : base ≤ w.heap.size) :
    Calls Try.prog 118 #[.pointer (some ⟨b, 0, none⟩), .int .i64 p, evV e] w fun e' w' => e' = .returned (.tuple #[]) ∧ Below base w w' ∧ ∃ mp' tr' hd' At' ct' nt' vs', LInv w' base b (m + 1) (adv s e) mp' tr' hd' At' ct' nt' vs' := by
  obtain ⟨t, k, a, x, o, er⟩ := e
  simp only at hq
  have hF : Fm ⟨t, k, a, x, o, er⟩ := by
    unfold putE at hput
    split at hput
    · cases hput
    · rename_i h; exact Classical.not_not.1 h
  have hF1 := hF.1
  have hF2 := hF.2.1
  simp only at hF1 hF2
  obtain ⟨t, rfl⟩ := Int.eq_ofNat_of_zero_le hF1.1
  obtain ⟨k, rfl⟩ := Int.eq_ofNat_of_zero_le (show 0 ≤ k by omega)
  have hhr := hI.how t (by omega)
  obtain ⟨hw, hhw⟩ := Int.eq_ofNat_of_zero_le hhr.1
  simp only [Int.toNat_natCast, hhw] at hq
  have HQ := Lib.hid hq
  clear hq
  obtain ⟨h8, hk, hnx, hlk, _⟩ := put_ok hput hhw (by omega)
  have h4 : hw < 4 := by omega
  obtain ⟨tv, htv, _, hpos⟩ := tab_next h4 hk er
  have htv2 := hpos hnx
  have i1 : (0 : Int) ≤ (t : Int) := by omega
  have i2 : (t : Int) < 8 := by omega
  have i3 : (0 : Int) ≤ (k : Int) := by omega
  have i4 : (k : Int) < 13 := by omega
  have j1 : (0 : Int) ≤ (hw : Int) := by omega
  have j2 : (hw : Int) < 4 := by omega
  obtain ⟨ms, hM, hMO⟩ := hI.mem
  have HI := Lib.hid hI
  have HE := Lib.hid he
  have HHW := Lib.hid hhw
  have HNX := Lib.hid htv2
  have HN0 := Lib.hid hnx
  have HNXE := Lib.hid (show tv - 1 = nextI (s.t t).how (Ev.mk (t : Int) (k : Int) a x o er).kind (Ev.mk (t : Int) (k : Int) a x o er).err by rw [hhw]; exact htv2)
  have HLK := Lib.hid hlk
  have HTV := Lib.hid htv
  have HMO := Lib.hid hMO
  have HB := Lib.hid (((Below.refl w.heap.size w).alloc (Nat.le_refl _) (.cells #[.int .i64 t, .int .i64 k, .int .u64 a, .int .u64 x, .bool o, .int .i64 er] 97)).mono hbase)
  have HX := Lib.hid (BoxE.made w ⟨(t : Int), (k : Int), a, x, o, er⟩)
  have hM1 := hM.alloc (.cells #[.int .i64 t, .int .i64 k, .int .u64 a, .int .u64 x, .bool o, .int .i64 er] 97)
  rw [lF_fld] at hM1
  have HM := Lib.hid hM1
  have v1 : 1 ≤ tv := by omega
  have v2 : tv ≤ 4 := by have := next_le hw k er; omega
  clear hput hF hF1 hF2 hhr hhw hlk hM hM1 hMO hI he htv htv2 hpos hnx
  show Calls Try.prog 118 #[.pointer (some ⟨b, 0, none⟩), .int .i64 p, .agg #[.int .i64 t, .int .i64 k, .int .u64 a, .int .u64 x, .bool o, .int .i64 er]] w _
  go_enter Try.func118, Try.ntmps118
  have hgb : b ≠ w.heap.size := by have := HI.out.blk.lt.2; omega
  obtain ⟨hg, c0, c1, c2, c3, c4, c5⟩ := HX.out
  simp only at c0 c1 c2 c3 c4 c5
  go_wp2
  go_quiet (fail)
  have hbel : Below w.heap.size w ((w.alloc (.cells #[.int .i64 t, .int .i64 k, .int .u64 a, .int .u64 x, .bool o, .int .i64 er] 97)).drewN nq) := bdrewN ((Below.refl w.heap.size w).alloc (Nat.le_refl _) _) nq
  have hMW := HM.out.still (w' := (w.alloc (.cells #[.int .i64 t, .int .i64 k, .int .u64 a, .int .u64 x, .bool o, .int .i64 er] 97)).drewN nq) (fun _ _ => rfl)
  have hXW := HX.out.below (w' := (w.alloc (.cells #[.int .i64 t, .int .i64 k, .int .u64 a, .int .u64 x, .bool o, .int .i64 er] 97)).drewN nq) (bdrewN (Below.refl _ _) nq)
  have hBW := bdrewN HB.out nq
  have hIW := HI.out.kept hbel
  have HLT := Lib.hid (fun q hq => (hIW.trs.lt q hq).1 : ∀ q, (Value.slice At nt ct).ownBlock = some q → base ≤ q)
  have hgl : w.heap.size < ((w.alloc (.cells #[.int .i64 t, .int .i64 k, .int .u64 a, .int .u64 x, .bool o, .int .i64 er] 97)).drewN nq).heap.size := hXW.lt
  have HTG := Lib.hid (fun q hq => (HI.out.trs.lt q hq).2 : ∀ q, (Value.slice At nt ct).ownBlock = some q → q < w.heap.size)
  have HMG := Lib.hid (fun i x (hx : ms i = some x) => (hMW.maps i x hx).2.lt)
  clear HM HX HB hbel c0 c1 c2 c3 c4 c5 hg
  generalize ((w.alloc (.cells #[.int .i64 t, .int .i64 k, .int .u64 a, .int .u64 x, .bool o, .int .i64 er] 97)).drewN nq) = W at *
  obtain ⟨_, c0, c1, c2, c3, c4, c5⟩ := id hXW
  simp only at c0 c1 c2 c3 c4 c5
  generalize w.heap.size = g at *
  have hC := hIW.cells
  have d0 := hC.how t h8
  rw [HHW.out] at d0
  have f0 := (hIW.blk.cell (j := 52 + t * 4) (by omega)).2
  have d1 := hC.snap t h8
  have f1 := (hIW.blk.cell (j := 52 + t * 4 + 1) (by omega)).2
  have d2 := hC.map t h8
  have f2 := (hIW.blk.cell (j := 52 + t * 4 + 2) (by omega)).2
  have d3 := hC.try_ t h8
  have f3 := (hIW.blk.cell (j := 52 + t * 4 + 3) (by omega)).2
  have d4 := hC.num
  have f4 := (hIW.blk.cell (j := 84) (by omega)).2
  have d5 := hC.hd
  have f5 := (hIW.blk.cell (j := 85) (by omega)).2
  have d6 := hC.trs
  have f6 := (hIW.blk.cell (j := 86) (by omega)).2
  have dt := hC.tab (hw * 13 + k) (by omega)
  rw [HTV.out] at dt
  have HMW := Lib.hid hMW
  have HIW := Lib.hid hIW
  have HXW := Lib.hid hXW
  have HBW := Lib.hid hBW
  have hzW : base ≤ W.heap.size := Nat.le_of_lt (Nat.lt_of_le_of_lt hbase hgl)
  clear hC hIW hMW hBW hXW
  obtain ⟨rfl, rfl⟩ : k = 2 ∧ hw = 1 := by have := HQ.out; omega
  clear HQ
  simp only [Nat.zero_mul, Nat.zero_add, Nat.one_mul, Nat.reduceMul, Nat.reduceAdd] at dt
  obtain ⟨hta, htb⟩ := (HIW.out.maps t h8 (by rw [HHW.out]; exact .inl rfl)).2
  obtain ⟨r, hr⟩ := Int.eq_ofNat_of_zero_le hta
  have hrn : r < nt := by omega
  obtain ⟨gt, cap', hv, _, hgt⟩ := HIW.out.trs.form (by omega)
  injection hv with hv1 _ hv3
  subst hv1 hv3
  have hbg : b ≠ gt := fun e => HMW.out.trs_ne (congrArg some e.symm)
  have hbg2 : gt ≠ b := fun e => hbg e.symm
  have hgtg : gt < g := HTG.out gt rfl
  have hgt2 : gt ≠ g := by omega
  have hgt3 : g ≠ gt := by omega
  have hbg3 : g ≠ b := fun e => hgb e.symm
  have r1 : (0 : Int) ≤ (r : Int) := by omega
  have r2 : (r : Int) < (nt : Int) := by omega
  have hbb : base ≤ b := HI.out.blk.lt.1
  have hbt : base ≤ gt := HLT.out gt rfl
  rw [hr] at d3
  go_wp2
  go_quiet (fail)
  have hIV := HIW.out.kept (bdrewN (Below.refl _ _) nq)
  have hMV := HMW.out.still (w' := W.drewN nq) (fun _ _ => rfl)
  have hXV := HXW.out.below (bdrewN (Below.refl _ _) nq)
  have hBV := bdrewN HBW.out nq
  have hzV : base ≤ (W.drewN nq).heap.size := hzW
  clear c0 c1 c2 c3 c4 c5 d0 d1 d2 d3 d4 d5 d6 f0 f1 f2 f3 f4 f5 f6 HIW HMW HXW HBW hzW hgl hgt
  have dtV : (W.drewN nq).cell? ⟨b, _, none⟩ = _ := dt
  clear dt
  generalize W.drewN nq = V at *
  obtain ⟨_, c0, c1, c2, c3, c4, c5⟩ := id hXV
  simp only at c0 c1 c2 c3 c4 c5
  have hC := hIV.cells
  have d0 := hC.how t h8
  have f0 := (hIV.blk.cell (j := 52 + t * 4) (by omega)).2
  have d1 := hC.snap t h8
  have f1 := (hIV.blk.cell (j := 52 + t * 4 + 1) (by omega)).2
  have d2 := hC.map t h8
  have f2 := (hIV.blk.cell (j := 52 + t * 4 + 2) (by omega)).2
  have d3 := hC.try_ t h8
  have f3 := (hIV.blk.cell (j := 52 + t * 4 + 3) (by omega)).2
  have d4 := hC.num
  have f4 := (hIV.blk.cell (j := 84) (by omega)).2
  have d5 := hC.hd
  have f5 := (hIV.blk.cell (j := 85) (by omega)).2
  have d6 := hC.trs
  have f6 := (hIV.blk.cell (j := 86) (by omega)).2
  rw [HHW.out] at d0
  rw [hr] at d3
  obtain ⟨⟨y2, e2, hy2⟩, g2⟩ := hMV.attempt_at (q := r * 7 + 2) (by omega)
  rw [if_neg (by omega)] at hy2
  obtain ⟨y2, rfl, z2⟩ := hy2
  clear z2
  obtain ⟨⟨y3, e3, hy3⟩, g3⟩ := hMV.attempt_at (q := r * 7 + 3) (by omega)
  rw [if_pos (by omega)] at hy3
  obtain ⟨y3, rfl⟩ := hy3
  obtain ⟨⟨y4, e4, hy4⟩, g4⟩ := hMV.attempt_at (q := r * 7 + 4) (by omega)
  rw [if_neg (by omega)] at hy4
  obtain ⟨y4, rfl, z4⟩ := hy4
  clear z4
  obtain ⟨⟨y5, e5, hy5⟩, g5⟩ := hMV.attempt_at (q := r * 7 + 5) (by omega)
  rw [if_neg (by omega)] at hy5
  obtain ⟨y5, rfl, z5⟩ := hy5
  have za5 := (z5 (by omega)).1
  have zb5 := (z5 (by omega)).2
  clear z5
  obtain ⟨⟨y6, e6, hy6⟩, g6⟩ := hMV.attempt_at (q := r * 7 + 6) (by omega)
  rw [if_neg (by omega)] at hy6
  obtain ⟨y6, rfl, z6⟩ := hy6
  have za6 := (z6 (by omega)).1
  have zb6 := (z6 (by omega)).2
  clear z6
  have HMV := Lib.hid hMV
  have HBV := Lib.hid hBV
  have HIV := Lib.hid hIV
  have HXV := Lib.hid hXV
  clear hC hIV hMV hXV hBV
  cases o with
  | false =>
    go_wp2
    go_region
    go_wp2
    go_end0
    obtain ⟨vs1, hM1⟩ := LMem.attempt (HMV.out.more (Nat.le_succ m)) (r * 7 + 2) (.int .i64 p) (by rw [if_neg (by omega)]; exact ⟨_, rfl, fun h => by omega⟩)
    obtain ⟨vs2, hM2⟩ := LMem.attempt (hM1) (r * 7 + 5) (.int .i64 (y5 + 1)) (by rw [if_neg (by omega)]; exact ⟨_, rfl, fun h => by omega⟩)
    have hM3 := LMem.setHow (hM2) h8 (.int .i64 (tv - 1))
    have hv0 : tv - 1 = 1 := by rw [HNX.out]; simp [nextI]
    have hBF := (Below.setCell (p := ⟨b, 52 + t * 4, none⟩) (Below.setCell (p := ⟨gt, r * 7 + 5, none⟩) (Below.setCell (p := ⟨gt, r * 7 + 2, none⟩) (HBV.out) hbt (.int .i64 p)) hbt (.int .i64 (y5 + 1))) hbb (.int .i64 (tv - 1))).drew
    exact ⟨rfl, hBF, mp, tr, hd, some ⟨gt, 0, none⟩, ct, nt, vs2, LMem.fin (t := t) (nx := tv - 1) HI.out (by rw [adv_fld s _ (t := t) (by simp) HNXE.out, if_neg (by simp), if_neg (by simp)]; exact hM3.drew) (by simp) HE.out (by omega) HNXE.out HMO.out (fun i _ => ⟨rfl, rfl, rfl⟩) ⟨Nat.le_refl _, Nat.le_succ_of_le HI.out.few⟩ (fun _ => by
        obtain ⟨g', n', D', a1, a2, a3, a4⟩ := HMO.out t h8 (by rw [HHW.out]; exact .inl rfl)
        exact ⟨g', n', D', a1, a2, Nat.le_succ_of_le a3, by simpa [advT] using a4⟩) (fun _ => (HI.out.maps t h8 (by rw [HHW.out]; exact .inl rfl)).2) (hold_same (t := t) HI.out (by simp) HNXE.out (by omega) (by rw [HHW.out]; decide))⟩
  | true =>
    go_wp2
    go_region
    go_wp2
    go_end0
    obtain ⟨vs1, hM1⟩ := LMem.attempt (HMV.out.more (Nat.le_succ m)) (r * 7 + 2) (.int .i64 p) (by rw [if_neg (by omega)]; exact ⟨_, rfl, fun h => by omega⟩)
    have hM2 := LMem.setHow (hM1) h8 (.int .i64 (tv - 1))
    have hv0 : tv - 1 = 1 := by rw [HNX.out]; simp [nextI]
    have hBF := (Below.setCell (p := ⟨b, 52 + t * 4, none⟩) (Below.setCell (p := ⟨gt, r * 7 + 2, none⟩) (HBV.out) hbt (.int .i64 p)) hbb (.int .i64 (tv - 1))).drew
    exact ⟨rfl, hBF, mp, tr, hd, some ⟨gt, 0, none⟩, ct, nt, vs1, LMem.fin (t := t) (nx := tv - 1) HI.out (by rw [adv_fld s _ (t := t) (by simp) HNXE.out, if_neg (by simp), if_neg (by simp)]; exact hM2.drew) (by simp) HE.out (by omega) HNXE.out HMO.out (fun i _ => ⟨rfl, rfl, rfl⟩) ⟨Nat.le_refl _, Nat.le_succ_of_le HI.out.few⟩ (fun _ => by
        obtain ⟨g', n', D', a1, a2, a3, a4⟩ := HMO.out t h8 (by rw [HHW.out]; exact .inl rfl)
        exact ⟨g', n', D', a1, a2, Nat.le_succ_of_le a3, by simpa [advT] using a4⟩) (fun _ => (HI.out.maps t h8 (by rw [HHW.out]; exact .inl rfl)).2) (hold_same (t := t) HI.out (by simp) HNXE.out (by omega) (by rw [HHW.out]; decide))⟩
set_option linter.unusedSimpArgs false in
set_option maxRecDepth 100000 in
set_option maxHeartbeats 6400000 in
theorem take_4 (base b m : Nat) (p : Int) (s : SS) (mp : Nat → Option Nat) (tr : Nat → Int) (hd : Int) (At : Option Addr) (ct nt : Nat) (vs : List Value) (e : Ev) (w : World) (he : e.Wd) (hI : LInv w base b m s mp tr hd At ct nt vs) (hput : putE s e = 0) (hq : e.kind = 4 ∧ (s.t e.th.toNat).how = 1) (hbase : base ≤ w.heap.size) :
    Calls Try.prog 118 #[.pointer (some ⟨b, 0, none⟩), .int .i64 p, evV e] w fun e' w' => e' = .returned (.tuple #[]) ∧ Below base w w' ∧ ∃ mp' tr' hd' At' ct' nt' vs', LInv w' base b (m + 1) (adv s e) mp' tr' hd' At' ct' nt' vs' := by
  obtain ⟨t, k, a, x, o, er⟩ := e
  simp only at hq
  have hF : Fm ⟨t, k, a, x, o, er⟩ := by
    unfold putE at hput
    split at hput
    · cases hput
    · rename_i h; exact Classical.not_not.1 h
  have hF1 := hF.1
  have hF2 := hF.2.1
  simp only at hF1 hF2
  obtain ⟨t, rfl⟩ := Int.eq_ofNat_of_zero_le hF1.1
  obtain ⟨k, rfl⟩ := Int.eq_ofNat_of_zero_le (show 0 ≤ k by omega)
  have hhr := hI.how t (by omega)
  obtain ⟨hw, hhw⟩ := Int.eq_ofNat_of_zero_le hhr.1
  simp only [Int.toNat_natCast, hhw] at hq
  have HQ := Lib.hid hq
  clear hq
  obtain ⟨h8, hk, hnx, hlk, _⟩ := put_ok hput hhw (by omega)
  have h4 : hw < 4 := by omega
  obtain ⟨tv, htv, _, hpos⟩ := tab_next h4 hk er
  have htv2 := hpos hnx
  have i1 : (0 : Int) ≤ (t : Int) := by omega
  have i2 : (t : Int) < 8 := by omega
  have i3 : (0 : Int) ≤ (k : Int) := by omega
  have i4 : (k : Int) < 13 := by omega
  have j1 : (0 : Int) ≤ (hw : Int) := by omega
  have j2 : (hw : Int) < 4 := by omega
  obtain ⟨ms, hM, hMO⟩ := hI.mem
  have HI := Lib.hid hI
  have HE := Lib.hid he
  have HHW := Lib.hid hhw
  have HNX := Lib.hid htv2
  have HN0 := Lib.hid hnx
  have HNXE := Lib.hid (show tv - 1 = nextI (s.t t).how (Ev.mk (t : Int) (k : Int) a x o er).kind (Ev.mk (t : Int) (k : Int) a x o er).err by rw [hhw]; exact htv2)
  have HLK := Lib.hid hlk
  have HTV := Lib.hid htv
  have HMO := Lib.hid hMO
  have HB := Lib.hid (((Below.refl w.heap.size w).alloc (Nat.le_refl _) (.cells #[.int .i64 t, .int .i64 k, .int .u64 a, .int .u64 x, .bool o, .int .i64 er] 97)).mono hbase)
  have HX := Lib.hid (BoxE.made w ⟨(t : Int), (k : Int), a, x, o, er⟩)
  have hM1 := hM.alloc (.cells #[.int .i64 t, .int .i64 k, .int .u64 a, .int .u64 x, .bool o, .int .i64 er] 97)
  rw [lF_fld] at hM1
  have HM := Lib.hid hM1
  have v1 : 1 ≤ tv := by omega
  have v2 : tv ≤ 4 := by have := next_le hw k er; omega
  clear hput hF hF1 hF2 hhr hhw hlk hM hM1 hMO hI he htv htv2 hpos hnx
  show Calls Try.prog 118 #[.pointer (some ⟨b, 0, none⟩), .int .i64 p, .agg #[.int .i64 t, .int .i64 k, .int .u64 a, .int .u64 x, .bool o, .int .i64 er]] w _
  go_enter Try.func118, Try.ntmps118
  have hgb : b ≠ w.heap.size := by have := HI.out.blk.lt.2; omega
  obtain ⟨hg, c0, c1, c2, c3, c4, c5⟩ := HX.out
  simp only at c0 c1 c2 c3 c4 c5
  go_wp2
  go_quiet (fail)
  have hbel : Below w.heap.size w ((w.alloc (.cells #[.int .i64 t, .int .i64 k, .int .u64 a, .int .u64 x, .bool o, .int .i64 er] 97)).drewN nq) := bdrewN ((Below.refl w.heap.size w).alloc (Nat.le_refl _) _) nq
  have hMW := HM.out.still (w' := (w.alloc (.cells #[.int .i64 t, .int .i64 k, .int .u64 a, .int .u64 x, .bool o, .int .i64 er] 97)).drewN nq) (fun _ _ => rfl)
  have hXW := HX.out.below (w' := (w.alloc (.cells #[.int .i64 t, .int .i64 k, .int .u64 a, .int .u64 x, .bool o, .int .i64 er] 97)).drewN nq) (bdrewN (Below.refl _ _) nq)
  have hBW := bdrewN HB.out nq
  have hIW := HI.out.kept hbel
  have HLT := Lib.hid (fun q hq => (hIW.trs.lt q hq).1 : ∀ q, (Value.slice At nt ct).ownBlock = some q → base ≤ q)
  have hgl : w.heap.size < ((w.alloc (.cells #[.int .i64 t, .int .i64 k, .int .u64 a, .int .u64 x, .bool o, .int .i64 er] 97)).drewN nq).heap.size := hXW.lt
  have HTG := Lib.hid (fun q hq => (HI.out.trs.lt q hq).2 : ∀ q, (Value.slice At nt ct).ownBlock = some q → q < w.heap.size)
  have HMG := Lib.hid (fun i x (hx : ms i = some x) => (hMW.maps i x hx).2.lt)
  clear HM HX HB hbel c0 c1 c2 c3 c4 c5 hg
  generalize ((w.alloc (.cells #[.int .i64 t, .int .i64 k, .int .u64 a, .int .u64 x, .bool o, .int .i64 er] 97)).drewN nq) = W at *
  obtain ⟨_, c0, c1, c2, c3, c4, c5⟩ := id hXW
  simp only at c0 c1 c2 c3 c4 c5
  generalize w.heap.size = g at *
  have hC := hIW.cells
  have d0 := hC.how t h8
  rw [HHW.out] at d0
  have f0 := (hIW.blk.cell (j := 52 + t * 4) (by omega)).2
  have d1 := hC.snap t h8
  have f1 := (hIW.blk.cell (j := 52 + t * 4 + 1) (by omega)).2
  have d2 := hC.map t h8
  have f2 := (hIW.blk.cell (j := 52 + t * 4 + 2) (by omega)).2
  have d3 := hC.try_ t h8
  have f3 := (hIW.blk.cell (j := 52 + t * 4 + 3) (by omega)).2
  have d4 := hC.num
  have f4 := (hIW.blk.cell (j := 84) (by omega)).2
  have d5 := hC.hd
  have f5 := (hIW.blk.cell (j := 85) (by omega)).2
  have d6 := hC.trs
  have f6 := (hIW.blk.cell (j := 86) (by omega)).2
  have dt := hC.tab (hw * 13 + k) (by omega)
  rw [HTV.out] at dt
  have HMW := Lib.hid hMW
  have HIW := Lib.hid hIW
  have HXW := Lib.hid hXW
  have HBW := Lib.hid hBW
  have hzW : base ≤ W.heap.size := Nat.le_of_lt (Nat.lt_of_le_of_lt hbase hgl)
  clear hC hIW hMW hBW hXW
  obtain ⟨rfl, rfl⟩ : k = 4 ∧ hw = 1 := by have := HQ.out; omega
  clear HQ
  simp only [Nat.zero_mul, Nat.zero_add, Nat.one_mul, Nat.reduceMul, Nat.reduceAdd] at dt
  obtain ⟨hta, htb⟩ := (HIW.out.maps t h8 (by rw [HHW.out]; exact .inl rfl)).2
  obtain ⟨r, hr⟩ := Int.eq_ofNat_of_zero_le hta
  have hrn : r < nt := by omega
  obtain ⟨gt, cap', hv, _, hgt⟩ := HIW.out.trs.form (by omega)
  injection hv with hv1 _ hv3
  subst hv1 hv3
  have hbg : b ≠ gt := fun e => HMW.out.trs_ne (congrArg some e.symm)
  have hbg2 : gt ≠ b := fun e => hbg e.symm
  have hgtg : gt < g := HTG.out gt rfl
  have hgt2 : gt ≠ g := by omega
  have hgt3 : g ≠ gt := by omega
  have hbg3 : g ≠ b := fun e => hgb e.symm
  have r1 : (0 : Int) ≤ (r : Int) := by omega
  have r2 : (r : Int) < (nt : Int) := by omega
  have hbb : base ≤ b := HI.out.blk.lt.1
  have hbt : base ≤ gt := HLT.out gt rfl
  rw [hr] at d3
  go_wp2
  go_quiet (fail)
  have hIV := HIW.out.kept (bdrewN (Below.refl _ _) nq)
  have hMV := HMW.out.still (w' := W.drewN nq) (fun _ _ => rfl)
  have hXV := HXW.out.below (bdrewN (Below.refl _ _) nq)
  have hBV := bdrewN HBW.out nq
  have hzV : base ≤ (W.drewN nq).heap.size := hzW
  clear c0 c1 c2 c3 c4 c5 d0 d1 d2 d3 d4 d5 d6 f0 f1 f2 f3 f4 f5 f6 HIW HMW HXW HBW hzW hgl hgt
  have dtV : (W.drewN nq).cell? ⟨b, _, none⟩ = _ := dt
  clear dt
  generalize W.drewN nq = V at *
  obtain ⟨_, c0, c1, c2, c3, c4, c5⟩ := id hXV
  simp only at c0 c1 c2 c3 c4 c5
  have hC := hIV.cells
  have d0 := hC.how t h8
  have f0 := (hIV.blk.cell (j := 52 + t * 4) (by omega)).2
  have d1 := hC.snap t h8
  have f1 := (hIV.blk.cell (j := 52 + t * 4 + 1) (by omega)).2
  have d2 := hC.map t h8
  have f2 := (hIV.blk.cell (j := 52 + t * 4 + 2) (by omega)).2
  have d3 := hC.try_ t h8
  have f3 := (hIV.blk.cell (j := 52 + t * 4 + 3) (by omega)).2
  have d4 := hC.num
  have f4 := (hIV.blk.cell (j := 84) (by omega)).2
  have d5 := hC.hd
  have f5 := (hIV.blk.cell (j := 85) (by omega)).2
  have d6 := hC.trs
  have f6 := (hIV.blk.cell (j := 86) (by omega)).2
  rw [HHW.out] at d0
  rw [hr] at d3
  obtain ⟨⟨y2, e2, hy2⟩, g2⟩ := hMV.attempt_at (q := r * 7 + 2) (by omega)
  rw [if_neg (by omega)] at hy2
  obtain ⟨y2, rfl, z2⟩ := hy2
  clear z2
  obtain ⟨⟨y3, e3, hy3⟩, g3⟩ := hMV.attempt_at (q := r * 7 + 3) (by omega)
  rw [if_pos (by omega)] at hy3
  obtain ⟨y3, rfl⟩ := hy3
  obtain ⟨⟨y4, e4, hy4⟩, g4⟩ := hMV.attempt_at (q := r * 7 + 4) (by omega)
  rw [if_neg (by omega)] at hy4
  obtain ⟨y4, rfl, z4⟩ := hy4
  clear z4
  obtain ⟨⟨y5, e5, hy5⟩, g5⟩ := hMV.attempt_at (q := r * 7 + 5) (by omega)
  rw [if_neg (by omega)] at hy5
  obtain ⟨y5, rfl, z5⟩ := hy5
  have za5 := (z5 (by omega)).1
  have zb5 := (z5 (by omega)).2
  clear z5
  obtain ⟨⟨y6, e6, hy6⟩, g6⟩ := hMV.attempt_at (q := r * 7 + 6) (by omega)
  rw [if_neg (by omega)] at hy6
  obtain ⟨y6, rfl, z6⟩ := hy6
  have za6 := (z6 (by omega)).1
  have zb6 := (z6 (by omega)).2
  clear z6
  have HMV := Lib.hid hMV
  have HBV := Lib.hid hBV
  have HIV := Lib.hid hIV
  have HXV := Lib.hid hXV
  clear hC hIV hMV hXV hBV
  go_wp2
  go_region
  go_wp2
  go_region
  go_wp2
  go_end0
  obtain ⟨vs1, hM1⟩ := LMem.attempt (HMV.out.more (Nat.le_succ m)) (r * 7 + 2) (.int .i64 p) (by rw [if_neg (by omega)]; exact ⟨_, rfl, fun h => by omega⟩)
  have hM2 := LMem.setSnap (hM1) h8 (.int .u64 x)
  obtain ⟨vs3, hM3⟩ := LMem.attempt (hM2) (r * 7 + 3) (.int .u64 x) (by rw [if_pos (by omega)]; exact ⟨_, rfl⟩)
  have hM4 := LMem.setHow (hM3) h8 (.int .i64 (tv - 1))
  have hv0 : tv - 1 = 1 := by rw [HNX.out]; simp [nextI]
  have hBF := ((Below.setCell (p := ⟨b, 52 + t * 4, none⟩) (Below.setCell (p := ⟨gt, r * 7 + 3, none⟩) (Below.setCell (p := ⟨b, 52 + t * 4 + 1, none⟩) (Below.setCell (p := ⟨gt, r * 7 + 2, none⟩) (HBV.out) hbt (.int .i64 p)) hbb (.int .u64 x)) hbt (.int .u64 x)) hbb (.int .i64 (tv - 1))).drew).drew
  exact ⟨rfl, hBF, mp, tr, hd, some ⟨gt, 0, none⟩, ct, nt, vs3, LMem.fin (t := t) (nx := tv - 1) HI.out (by rw [adv_fld s _ (t := t) (by simp) HNXE.out, if_pos (by simp), if_neg (by simp)]; exact hM4.drew.drew) (by simp) HE.out (by omega) HNXE.out HMO.out (fun i _ => ⟨rfl, rfl, rfl⟩) ⟨Nat.le_refl _, Nat.le_succ_of_le HI.out.few⟩ (fun _ => by
        obtain ⟨g', n', D', a1, a2, a3, a4⟩ := HMO.out t h8 (by rw [HHW.out]; exact .inl rfl)
        exact ⟨g', n', D', a1, a2, Nat.le_succ_of_le a3, by simpa [advT] using a4⟩) (fun _ => (HI.out.maps t h8 (by rw [HHW.out]; exact .inl rfl)).2) (hold_same (t := t) HI.out (by simp) HNXE.out (by omega) (by rw [HHW.out]; decide))⟩
set_option linter.unusedSimpArgs false in
set_option maxRecDepth 100000 in
set_option maxHeartbeats 6400000 in
theorem take_5 (base b m : Nat) (p : Int) (s : SS) (mp : Nat → Option Nat) (tr : Nat → Int) (hd : Int) (At : Option Addr) (ct nt : Nat) (vs : List Value) (e : Ev) (w : World) (he : e.Wd) (hI : LInv w base b m s mp tr hd At ct nt vs) (hput : putE s e = 0) (hq : e.kind = 5 ∧ (s.t e.th.toNat).how = 1) (hbase : base ≤ w.heap.size) :
    Calls Try.prog 118 #[.pointer (some ⟨b, 0, none⟩), .int .i64 p, evV e] w fun e' w' => e' = .returned (.tuple #[]) ∧ Below base w w' ∧ ∃ mp' tr' hd' At' ct' nt' vs', LInv w' base b (m + 1) (adv s e) mp' tr' hd' At' ct' nt' vs' := by
  obtain ⟨t, k, a, x, o, er⟩ := e
  simp only at hq
  have hF : Fm ⟨t, k, a, x, o, er⟩ := by
    unfold putE at hput
    split at hput
    · cases hput
    · rename_i h; exact Classical.not_not.1 h
  have hF1 := hF.1
  have hF2 := hF.2.1
  simp only at hF1 hF2
  obtain ⟨t, rfl⟩ := Int.eq_ofNat_of_zero_le hF1.1
  obtain ⟨k, rfl⟩ := Int.eq_ofNat_of_zero_le (show 0 ≤ k by omega)
  have hhr := hI.how t (by omega)
  obtain ⟨hw, hhw⟩ := Int.eq_ofNat_of_zero_le hhr.1
  simp only [Int.toNat_natCast, hhw] at hq
  have HQ := Lib.hid hq
  clear hq
  obtain ⟨h8, hk, hnx, hlk, _⟩ := put_ok hput hhw (by omega)
  have h4 : hw < 4 := by omega
  obtain ⟨tv, htv, _, hpos⟩ := tab_next h4 hk er
  have htv2 := hpos hnx
  have i1 : (0 : Int) ≤ (t : Int) := by omega
  have i2 : (t : Int) < 8 := by omega
  have i3 : (0 : Int) ≤ (k : Int) := by omega
  have i4 : (k : Int) < 13 := by omega
  have j1 : (0 : Int) ≤ (hw : Int) := by omega
  have j2 : (hw : Int) < 4 := by omega
  obtain ⟨ms, hM, hMO⟩ := hI.mem
  have HI := Lib.hid hI
  have HE := Lib.hid he
  have HHW := Lib.hid hhw
  have HNX := Lib.hid htv2
  have HN0 := Lib.hid hnx
  have HNXE := Lib.hid (show tv - 1 = nextI (s.t t).how (Ev.mk (t : Int) (k : Int) a x o er).kind (Ev.mk (t : Int) (k : Int) a x o er).err by rw [hhw]; exact htv2)
  have HLK := Lib.hid hlk
  have HTV := Lib.hid htv
  have HMO := Lib.hid hMO
  have HB := Lib.hid (((Below.refl w.heap.size w).alloc (Nat.le_refl _) (.cells #[.int .i64 t, .int .i64 k, .int .u64 a, .int .u64 x, .bool o, .int .i64 er] 97)).mono hbase)
  have HX := Lib.hid (BoxE.made w ⟨(t : Int), (k : Int), a, x, o, er⟩)
  have hM1 := hM.alloc (.cells #[.int .i64 t, .int .i64 k, .int .u64 a, .int .u64 x, .bool o, .int .i64 er] 97)
  rw [lF_fld] at hM1
  have HM := Lib.hid hM1
  have v1 : 1 ≤ tv := by omega
  have v2 : tv ≤ 4 := by have := next_le hw k er; omega
  clear hput hF hF1 hF2 hhr hhw hlk hM hM1 hMO hI he htv htv2 hpos hnx
  show Calls Try.prog 118 #[.pointer (some ⟨b, 0, none⟩), .int .i64 p, .agg #[.int .i64 t, .int .i64 k, .int .u64 a, .int .u64 x, .bool o, .int .i64 er]] w _
  go_enter Try.func118, Try.ntmps118
  have hgb : b ≠ w.heap.size := by have := HI.out.blk.lt.2; omega
  obtain ⟨hg, c0, c1, c2, c3, c4, c5⟩ := HX.out
  simp only at c0 c1 c2 c3 c4 c5
  go_wp2
  go_quiet (fail)
  have hbel : Below w.heap.size w ((w.alloc (.cells #[.int .i64 t, .int .i64 k, .int .u64 a, .int .u64 x, .bool o, .int .i64 er] 97)).drewN nq) := bdrewN ((Below.refl w.heap.size w).alloc (Nat.le_refl _) _) nq
  have hMW := HM.out.still (w' := (w.alloc (.cells #[.int .i64 t, .int .i64 k, .int .u64 a, .int .u64 x, .bool o, .int .i64 er] 97)).drewN nq) (fun _ _ => rfl)
  have hXW := HX.out.below (w' := (w.alloc (.cells #[.int .i64 t, .int .i64 k, .int .u64 a, .int .u64 x, .bool o, .int .i64 er] 97)).drewN nq) (bdrewN (Below.refl _ _) nq)
  have hBW := bdrewN HB.out nq
  have hIW := HI.out.kept hbel
  have HLT := Lib.hid (fun q hq => (hIW.trs.lt q hq).1 : ∀ q, (Value.slice At nt ct).ownBlock = some q → base ≤ q)
  have hgl : w.heap.size < ((w.alloc (.cells #[.int .i64 t, .int .i64 k, .int .u64 a, .int .u64 x, .bool o, .int .i64 er] 97)).drewN nq).heap.size := hXW.lt
  have HTG := Lib.hid (fun q hq => (HI.out.trs.lt q hq).2 : ∀ q, (Value.slice At nt ct).ownBlock = some q → q < w.heap.size)
  have HMG := Lib.hid (fun i x (hx : ms i = some x) => (hMW.maps i x hx).2.lt)
  clear HM HX HB hbel c0 c1 c2 c3 c4 c5 hg
  generalize ((w.alloc (.cells #[.int .i64 t, .int .i64 k, .int .u64 a, .int .u64 x, .bool o, .int .i64 er] 97)).drewN nq) = W at *
  obtain ⟨_, c0, c1, c2, c3, c4, c5⟩ := id hXW
  simp only at c0 c1 c2 c3 c4 c5
  generalize w.heap.size = g at *
  have hC := hIW.cells
  have d0 := hC.how t h8
  rw [HHW.out] at d0
  have f0 := (hIW.blk.cell (j := 52 + t * 4) (by omega)).2
  have d1 := hC.snap t h8
  have f1 := (hIW.blk.cell (j := 52 + t * 4 + 1) (by omega)).2
  have d2 := hC.map t h8
  have f2 := (hIW.blk.cell (j := 52 + t * 4 + 2) (by omega)).2
  have d3 := hC.try_ t h8
  have f3 := (hIW.blk.cell (j := 52 + t * 4 + 3) (by omega)).2
  have d4 := hC.num
  have f4 := (hIW.blk.cell (j := 84) (by omega)).2
  have d5 := hC.hd
  have f5 := (hIW.blk.cell (j := 85) (by omega)).2
  have d6 := hC.trs
  have f6 := (hIW.blk.cell (j := 86) (by omega)).2
  have dt := hC.tab (hw * 13 + k) (by omega)
  rw [HTV.out] at dt
  have HMW := Lib.hid hMW
  have HIW := Lib.hid hIW
  have HXW := Lib.hid hXW
  have HBW := Lib.hid hBW
  have hzW : base ≤ W.heap.size := Nat.le_of_lt (Nat.lt_of_le_of_lt hbase hgl)
  clear hC hIW hMW hBW hXW
  obtain ⟨rfl, rfl⟩ : k = 5 ∧ hw = 1 := by have := HQ.out; omega
  clear HQ
  simp only [Nat.zero_mul, Nat.zero_add, Nat.one_mul, Nat.reduceMul, Nat.reduceAdd] at dt
  obtain ⟨hta, htb⟩ := (HIW.out.maps t h8 (by rw [HHW.out]; exact .inl rfl)).2
  obtain ⟨r, hr⟩ := Int.eq_ofNat_of_zero_le hta
  have hrn : r < nt := by omega
  obtain ⟨gt, cap', hv, _, hgt⟩ := HIW.out.trs.form (by omega)
  injection hv with hv1 _ hv3
  subst hv1 hv3
  have hbg : b ≠ gt := fun e => HMW.out.trs_ne (congrArg some e.symm)
  have hbg2 : gt ≠ b := fun e => hbg e.symm
  have hgtg : gt < g := HTG.out gt rfl
  have hgt2 : gt ≠ g := by omega
  have hgt3 : g ≠ gt := by omega
  have hbg3 : g ≠ b := fun e => hgb e.symm
  have r1 : (0 : Int) ≤ (r : Int) := by omega
  have r2 : (r : Int) < (nt : Int) := by omega
  have hbb : base ≤ b := HI.out.blk.lt.1
  have hbt : base ≤ gt := HLT.out gt rfl
  rw [hr] at d3
  go_wp2
  go_quiet (fail)
  have hIV := HIW.out.kept (bdrewN (Below.refl _ _) nq)
  have hMV := HMW.out.still (w' := W.drewN nq) (fun _ _ => rfl)
  have hXV := HXW.out.below (bdrewN (Below.refl _ _) nq)
  have hBV := bdrewN HBW.out nq
  have hzV : base ≤ (W.drewN nq).heap.size := hzW
  clear c0 c1 c2 c3 c4 c5 d0 d1 d2 d3 d4 d5 d6 f0 f1 f2 f3 f4 f5 f6 HIW HMW HXW HBW hzW hgl hgt
  have dtV : (W.drewN nq).cell? ⟨b, _, none⟩ = _ := dt
  clear dt
  generalize W.drewN nq = V at *
  obtain ⟨_, c0, c1, c2, c3, c4, c5⟩ := id hXV
  simp only at c0 c1 c2 c3 c4 c5
  have hC := hIV.cells
  have d0 := hC.how t h8
  have f0 := (hIV.blk.cell (j := 52 + t * 4) (by omega)).2
  have d1 := hC.snap t h8
  have f1 := (hIV.blk.cell (j := 52 + t * 4 + 1) (by omega)).2
  have d2 := hC.map t h8
  have f2 := (hIV.blk.cell (j := 52 + t * 4 + 2) (by omega)).2
  have d3 := hC.try_ t h8
  have f3 := (hIV.blk.cell (j := 52 + t * 4 + 3) (by omega)).2
  have d4 := hC.num
  have f4 := (hIV.blk.cell (j := 84) (by omega)).2
  have d5 := hC.hd
  have f5 := (hIV.blk.cell (j := 85) (by omega)).2
  have d6 := hC.trs
  have f6 := (hIV.blk.cell (j := 86) (by omega)).2
  rw [HHW.out] at d0
  rw [hr] at d3
  obtain ⟨⟨y2, e2, hy2⟩, g2⟩ := hMV.attempt_at (q := r * 7 + 2) (by omega)
  rw [if_neg (by omega)] at hy2
  obtain ⟨y2, rfl, z2⟩ := hy2
  clear z2
  obtain ⟨⟨y3, e3, hy3⟩, g3⟩ := hMV.attempt_at (q := r * 7 + 3) (by omega)
  rw [if_pos (by omega)] at hy3
  obtain ⟨y3, rfl⟩ := hy3
  obtain ⟨⟨y4, e4, hy4⟩, g4⟩ := hMV.attempt_at (q := r * 7 + 4) (by omega)
  rw [if_neg (by omega)] at hy4
  obtain ⟨y4, rfl, z4⟩ := hy4
  clear z4
  obtain ⟨⟨y5, e5, hy5⟩, g5⟩ := hMV.attempt_at (q := r * 7 + 5) (by omega)
  rw [if_neg (by omega)] at hy5
  obtain ⟨y5, rfl, z5⟩ := hy5
  have za5 := (z5 (by omega)).1
  have zb5 := (z5 (by omega)).2
  clear z5
  obtain ⟨⟨y6, e6, hy6⟩, g6⟩ := hMV.attempt_at (q := r * 7 + 6) (by omega)
  rw [if_neg (by omega)] at hy6
  obtain ⟨y6, rfl, z6⟩ := hy6
  have za6 := (z6 (by omega)).1
  have zb6 := (z6 (by omega)).2
  clear z6
  have HMV := Lib.hid hMV
  have HBV := Lib.hid hBV
  have HIV := Lib.hid hIV
  have HXV := Lib.hid hXV
  clear hC hIV hMV hXV hBV
  go_wp2
  go_region
  go_wp2
  go_end0
  obtain ⟨vs1, hM1⟩ := LMem.attempt (HMV.out.more (Nat.le_succ m)) (r * 7 + 2) (.int .i64 p) (by rw [if_neg (by omega)]; exact ⟨_, rfl, fun h => by omega⟩)
  have hM2 := LMem.setHd (hM1) (.int .i64 (t : Int))
  have hM3 := LMem.setHow (hM2) h8 (.int .i64 (tv - 1))
  have hv0 : tv - 1 = 2 := by rw [HNX.out]; simp [nextI]
  have hBF := (Below.setCell (p := ⟨b, 52 + t * 4, none⟩) (Below.setCell (p := ⟨b, 85, none⟩) (Below.setCell (p := ⟨gt, r * 7 + 2, none⟩) (HBV.out) hbt (.int .i64 p)) hbb (.int .i64 (t : Int))) hbb (.int .i64 (tv - 1))).drew
  exact ⟨rfl, hBF, mp, tr, (t : Int), some ⟨gt, 0, none⟩, ct, nt, vs1, LMem.fin (t := t) (nx := tv - 1) HI.out (by rw [adv_fld s _ (t := t) (by simp) HNXE.out, if_neg (by simp), if_neg (by simp)]; exact hM3.drew) (by simp) HE.out (by omega) HNXE.out HMO.out (fun i _ => ⟨rfl, rfl, rfl⟩) ⟨Nat.le_refl _, Nat.le_succ_of_le HI.out.few⟩ (fun _ => by
        obtain ⟨g', n', D', a1, a2, a3, a4⟩ := HMO.out t h8 (by rw [HHW.out]; exact .inl rfl)
        exact ⟨g', n', D', a1, a2, Nat.le_succ_of_le a3, by simpa [advT] using a4⟩) (fun _ => (HI.out.maps t h8 (by rw [HHW.out]; exact .inl rfl)).2) (hold_take (t := t) (by simp) h8 HNXE.out hv0 (HLK.out (by simp [LockK])))⟩
set_option linter.unusedSimpArgs false in
set_option maxRecDepth 100000 in
set_option maxHeartbeats 6400000 in
theorem take_6 (base b m : Nat) (p : Int) (s : SS) (mp : Nat → Option Nat) (tr : Nat → Int) (hd : Int) (At : Option Addr) (ct nt : Nat) (vs : List Value) (e : Ev) (w : World) (he : e.Wd) (hI : LInv w base b m s mp tr hd At ct nt vs) (hput : putE s e = 0) (hq : e.kind = 6 ∧ (s.t e.th.toNat).how = 1) (hbase : base ≤ w.heap.size) :
    Calls Try.prog 118 #[.pointer (some ⟨b, 0, none⟩), .int .i64 p, evV e] w fun e' w' => e' = .returned (.tuple #[]) ∧ Below base w w' ∧ ∃ mp' tr' hd' At' ct' nt' vs', LInv w' base b (m + 1) (adv s e) mp' tr' hd' At' ct' nt' vs' := by
  obtain ⟨t, k, a, x, o, er⟩ := e
  simp only at hq
  have hF : Fm ⟨t, k, a, x, o, er⟩ := by
    unfold putE at hput
    split at hput
    · cases hput
    · rename_i h; exact Classical.not_not.1 h
  have hF1 := hF.1
  have hF2 := hF.2.1
  simp only at hF1 hF2
  obtain ⟨t, rfl⟩ := Int.eq_ofNat_of_zero_le hF1.1
  obtain ⟨k, rfl⟩ := Int.eq_ofNat_of_zero_le (show 0 ≤ k by omega)
  have hhr := hI.how t (by omega)
  obtain ⟨hw, hhw⟩ := Int.eq_ofNat_of_zero_le hhr.1
  simp only [Int.toNat_natCast, hhw] at hq
  have HQ := Lib.hid hq
  clear hq
  obtain ⟨h8, hk, hnx, hlk, _⟩ := put_ok hput hhw (by omega)
  have h4 : hw < 4 := by omega
  obtain ⟨tv, htv, _, hpos⟩ := tab_next h4 hk er
  have htv2 := hpos hnx
  have i1 : (0 : Int) ≤ (t : Int) := by omega
  have i2 : (t : Int) < 8 := by omega
  have i3 : (0 : Int) ≤ (k : Int) := by omega
  have i4 : (k : Int) < 13 := by omega
  have j1 : (0 : Int) ≤ (hw : Int) := by omega
  have j2 : (hw : Int) < 4 := by omega
  obtain ⟨ms, hM, hMO⟩ := hI.mem
  have HI := Lib.hid hI
  have HE := Lib.hid he
  have HHW := Lib.hid hhw
  have HNX := Lib.hid htv2
  have HN0 := Lib.hid hnx
  have HNXE := Lib.hid (show tv - 1 = nextI (s.t t).how (Ev.mk (t : Int) (k : Int) a x o er).kind (Ev.mk (t : Int) (k : Int) a x o er).err by rw [hhw]; exact htv2)
  have HLK := Lib.hid hlk
  have HTV := Lib.hid htv
  have HMO := Lib.hid hMO
  have HB := Lib.hid (((Below.refl w.heap.size w).alloc (Nat.le_refl _) (.cells #[.int .i64 t, .int .i64 k, .int .u64 a, .int .u64 x, .bool o, .int .i64 er] 97)).mono hbase)
  have HX := Lib.hid (BoxE.made w ⟨(t : Int), (k : Int), a, x, o, er⟩)
  have hM1 := hM.alloc (.cells #[.int .i64 t, .int .i64 k, .int .u64 a, .int .u64 x, .bool o, .int .i64 er] 97)
  rw [lF_fld] at hM1
  have HM := Lib.hid hM1
  have v1 : 1 ≤ tv := by omega
  have v2 : tv ≤ 4 := by have := next_le hw k er; omega
  clear hput hF hF1 hF2 hhr hhw hlk hM hM1 hMO hI he htv htv2 hpos hnx
  show Calls Try.prog 118 #[.pointer (some ⟨b, 0, none⟩), .int .i64 p, .agg #[.int .i64 t, .int .i64 k, .int .u64 a, .int .u64 x, .bool o, .int .i64 er]] w _
  go_enter Try.func118, Try.ntmps118
  have hgb : b ≠ w.heap.size := by have := HI.out.blk.lt.2; omega
  obtain ⟨hg, c0, c1, c2, c3, c4, c5⟩ := HX.out
  simp only at c0 c1 c2 c3 c4 c5
  go_wp2
  go_quiet (fail)
  have hbel : Below w.heap.size w ((w.alloc (.cells #[.int .i64 t, .int .i64 k, .int .u64 a, .int .u64 x, .bool o, .int .i64 er] 97)).drewN nq) := bdrewN ((Below.refl w.heap.size w).alloc (Nat.le_refl _) _) nq
  have hMW := HM.out.still (w' := (w.alloc (.cells #[.int .i64 t, .int .i64 k, .int .u64 a, .int .u64 x, .bool o, .int .i64 er] 97)).drewN nq) (fun _ _ => rfl)
  have hXW := HX.out.below (w' := (w.alloc (.cells #[.int .i64 t, .int .i64 k, .int .u64 a, .int .u64 x, .bool o, .int .i64 er] 97)).drewN nq) (bdrewN (Below.refl _ _) nq)
  have hBW := bdrewN HB.out nq
  have hIW := HI.out.kept hbel
  have HLT := Lib.hid (fun q hq => (hIW.trs.lt q hq).1 : ∀ q, (Value.slice At nt ct).ownBlock = some q → base ≤ q)
  have hgl : w.heap.size < ((w.alloc (.cells #[.int .i64 t, .int .i64 k, .int .u64 a, .int .u64 x, .bool o, .int .i64 er] 97)).drewN nq).heap.size := hXW.lt
  have HTG := Lib.hid (fun q hq => (HI.out.trs.lt q hq).2 : ∀ q, (Value.slice At nt ct).ownBlock = some q → q < w.heap.size)
  have HMG := Lib.hid (fun i x (hx : ms i = some x) => (hMW.maps i x hx).2.lt)
  clear HM HX HB hbel c0 c1 c2 c3 c4 c5 hg
  generalize ((w.alloc (.cells #[.int .i64 t, .int .i64 k, .int .u64 a, .int .u64 x, .bool o, .int .i64 er] 97)).drewN nq) = W at *
  obtain ⟨_, c0, c1, c2, c3, c4, c5⟩ := id hXW
  simp only at c0 c1 c2 c3 c4 c5
  generalize w.heap.size = g at *
  have hC := hIW.cells
  have d0 := hC.how t h8
  rw [HHW.out] at d0
  have f0 := (hIW.blk.cell (j := 52 + t * 4) (by omega)).2
  have d1 := hC.snap t h8
  have f1 := (hIW.blk.cell (j := 52 + t * 4 + 1) (by omega)).2
  have d2 := hC.map t h8
  have f2 := (hIW.blk.cell (j := 52 + t * 4 + 2) (by omega)).2
  have d3 := hC.try_ t h8
  have f3 := (hIW.blk.cell (j := 52 + t * 4 + 3) (by omega)).2
  have d4 := hC.num
  have f4 := (hIW.blk.cell (j := 84) (by omega)).2
  have d5 := hC.hd
  have f5 := (hIW.blk.cell (j := 85) (by omega)).2
  have d6 := hC.trs
  have f6 := (hIW.blk.cell (j := 86) (by omega)).2
  have dt := hC.tab (hw * 13 + k) (by omega)
  rw [HTV.out] at dt
  have HMW := Lib.hid hMW
  have HIW := Lib.hid hIW
  have HXW := Lib.hid hXW
  have HBW := Lib.hid hBW
  have hzW : base ≤ W.heap.size := Nat.le_of_lt (Nat.lt_of_le_of_lt hbase hgl)
  clear hC hIW hMW hBW hXW
  obtain ⟨rfl, rfl⟩ : k = 6 ∧ hw = 1 := by have := HQ.out; omega
  clear HQ
  simp only [Nat.zero_mul, Nat.zero_add, Nat.one_mul, Nat.reduceMul, Nat.reduceAdd] at dt
  obtain ⟨hta, htb⟩ := (HIW.out.maps t h8 (by rw [HHW.out]; exact .inl rfl)).2
  obtain ⟨r, hr⟩ := Int.eq_ofNat_of_zero_le hta
  have hrn : r < nt := by omega
  obtain ⟨gt, cap', hv, _, hgt⟩ := HIW.out.trs.form (by omega)
  injection hv with hv1 _ hv3
  subst hv1 hv3
  have hbg : b ≠ gt := fun e => HMW.out.trs_ne (congrArg some e.symm)
  have hbg2 : gt ≠ b := fun e => hbg e.symm
  have hgtg : gt < g := HTG.out gt rfl
  have hgt2 : gt ≠ g := by omega
  have hgt3 : g ≠ gt := by omega
  have hbg3 : g ≠ b := fun e => hgb e.symm
  have r1 : (0 : Int) ≤ (r : Int) := by omega
  have r2 : (r : Int) < (nt : Int) := by omega
  have hbb : base ≤ b := HI.out.blk.lt.1
  have hbt : base ≤ gt := HLT.out gt rfl
  rw [hr] at d3
  go_wp2
  go_quiet (fail)
  have hIV := HIW.out.kept (bdrewN (Below.refl _ _) nq)
  have hMV := HMW.out.still (w' := W.drewN nq) (fun _ _ => rfl)
  have hXV := HXW.out.below (bdrewN (Below.refl _ _) nq)
  have hBV := bdrewN HBW.out nq
  have hzV : base ≤ (W.drewN nq).heap.size := hzW
  clear c0 c1 c2 c3 c4 c5 d0 d1 d2 d3 d4 d5 d6 f0 f1 f2 f3 f4 f5 f6 HIW HMW HXW HBW hzW hgl hgt
  have dtV : (W.drewN nq).cell? ⟨b, _, none⟩ = _ := dt
  clear dt
  generalize W.drewN nq = V at *
  obtain ⟨_, c0, c1, c2, c3, c4, c5⟩ := id hXV
  simp only at c0 c1 c2 c3 c4 c5
  have hC := hIV.cells
  have d0 := hC.how t h8
  have f0 := (hIV.blk.cell (j := 52 + t * 4) (by omega)).2
  have d1 := hC.snap t h8
  have f1 := (hIV.blk.cell (j := 52 + t * 4 + 1) (by omega)).2
  have d2 := hC.map t h8
  have f2 := (hIV.blk.cell (j := 52 + t * 4 + 2) (by omega)).2
  have d3 := hC.try_ t h8
  have f3 := (hIV.blk.cell (j := 52 + t * 4 + 3) (by omega)).2
  have d4 := hC.num
  have f4 := (hIV.blk.cell (j := 84) (by omega)).2
  have d5 := hC.hd
  have f5 := (hIV.blk.cell (j := 85) (by omega)).2
  have d6 := hC.trs
  have f6 := (hIV.blk.cell (j := 86) (by omega)).2
  rw [HHW.out] at d0
  rw [hr] at d3
  obtain ⟨⟨y2, e2, hy2⟩, g2⟩ := hMV.attempt_at (q := r * 7 + 2) (by omega)
  rw [if_neg (by omega)] at hy2
  obtain ⟨y2, rfl, z2⟩ := hy2
  clear z2
  obtain ⟨⟨y3, e3, hy3⟩, g3⟩ := hMV.attempt_at (q := r * 7 + 3) (by omega)
  rw [if_pos (by omega)] at hy3
  obtain ⟨y3, rfl⟩ := hy3
  obtain ⟨⟨y4, e4, hy4⟩, g4⟩ := hMV.attempt_at (q := r * 7 + 4) (by omega)
  rw [if_neg (by omega)] at hy4
  obtain ⟨y4, rfl, z4⟩ := hy4
  clear z4
  obtain ⟨⟨y5, e5, hy5⟩, g5⟩ := hMV.attempt_at (q := r * 7 + 5) (by omega)
  rw [if_neg (by omega)] at hy5
  obtain ⟨y5, rfl, z5⟩ := hy5
  have za5 := (z5 (by omega)).1
  have zb5 := (z5 (by omega)).2
  clear z5
  obtain ⟨⟨y6, e6, hy6⟩, g6⟩ := hMV.attempt_at (q := r * 7 + 6) (by omega)
  rw [if_neg (by omega)] at hy6
  obtain ⟨y6, rfl, z6⟩ := hy6
  have za6 := (z6 (by omega)).1
  have zb6 := (z6 (by omega)).2
  clear z6
  have HMV := Lib.hid hMV
  have HBV := Lib.hid hBV
  have HIV := Lib.hid hIV
  have HXV := Lib.hid hXV
  clear hC hIV hMV hXV hBV
  go_wp2
  go_region
  go_wp2
  go_end0
  obtain ⟨vs1, hM1⟩ := LMem.attempt (HMV.out.more (Nat.le_succ m)) (r * 7 + 2) (.int .i64 p) (by rw [if_neg (by omega)]; exact ⟨_, rfl, fun h => by omega⟩)
  obtain ⟨vs2, hM2⟩ := LMem.attempt (hM1) (r * 7 + 4) (.int .i64 6) (by rw [if_neg (by omega)]; exact ⟨_, rfl, fun h => by omega⟩)
  have hM3 := LMem.setHow (hM2) h8 (.int .i64 (tv - 1))
  have hv0 : tv - 1 = 0 := by rw [HNX.out]; simp [nextI]
  have hBF := (Below.setCell (p := ⟨b, 52 + t * 4, none⟩) (Below.setCell (p := ⟨gt, r * 7 + 4, none⟩) (Below.setCell (p := ⟨gt, r * 7 + 2, none⟩) (HBV.out) hbt (.int .i64 p)) hbt (.int .i64 6)) hbb (.int .i64 (tv - 1))).drew
  exact ⟨rfl, hBF, mp, tr, hd, some ⟨gt, 0, none⟩, ct, nt, vs2, LMem.fin (t := t) (nx := tv - 1) HI.out (by rw [adv_fld s _ (t := t) (by simp) HNXE.out, if_neg (by simp), if_neg (by simp [HHW.out])]; exact hM3.drew) (by simp) HE.out (by omega) HNXE.out HMO.out (fun i _ => ⟨rfl, rfl, rfl⟩) ⟨Nat.le_refl _, Nat.le_succ_of_le HI.out.few⟩ (fun h => by rcases h with h | h <;> omega) (fun h => by rcases h with h | h <;> omega) (hold_same (t := t) HI.out (by simp) HNXE.out (by omega) (by rw [HHW.out]; decide))⟩
set_option linter.unusedSimpArgs false in
set_option maxRecDepth 100000 in
set_option maxHeartbeats 6400000 in
theorem take_6h (base b m : Nat) (p : Int) (s : SS) (mp : Nat → Option Nat) (tr : Nat → Int) (hd : Int) (At : Option Addr) (ct nt : Nat) (vs : List Value) (e : Ev) (w : World) (he : e.Wd) (hI : LInv w base b m s mp tr hd At ct nt vs) (hput : putE s e = 0) (hq : e.kind = 6 ∧ (s.t e.th.toNat).how = 2) (hbase : base ≤ w.heap.size) :
    Calls Try.prog 118 #[.pointer (some ⟨b, 0, none⟩), .int .i64 p, evV e] w fun e' w' => e' = .returned (.tuple #[]) ∧ Below base w w' ∧ ∃ mp' tr' hd' At' ct' nt' vs', LInv w' base b (m + 1) (adv s e) mp' tr' hd' At' ct' nt' vs' := by
  obtain ⟨t, k, a, x, o, er⟩ := e
  simp only at hq
  have hF : Fm ⟨t, k, a, x, o, er⟩ := by
    unfold putE at hput
    split at hput
    · cases hput
    · rename_i h; exact Classical.not_not.1 h
  have hF1 := hF.1
  have hF2 := hF.2.1
  simp only at hF1 hF2
  obtain ⟨t, rfl⟩ := Int.eq_ofNat_of_zero_le hF1.1
  obtain ⟨k, rfl⟩ := Int.eq_ofNat_of_zero_le (show 0 ≤ k by omega)
  have hhr := hI.how t (by omega)
  obtain ⟨hw, hhw⟩ := Int.eq_ofNat_of_zero_le hhr.1
  simp only [Int.toNat_natCast, hhw] at hq
  have HQ := Lib.hid hq
  clear hq
  obtain ⟨h8, hk, hnx, hlk, _⟩ := put_ok hput hhw (by omega)
  have h4 : hw < 4 := by omega
  obtain ⟨tv, htv, _, hpos⟩ := tab_next h4 hk er
  have htv2 := hpos hnx
  have i1 : (0 : Int) ≤ (t : Int) := by omega
  have i2 : (t : Int) < 8 := by omega
  have i3 : (0 : Int) ≤ (k : Int) := by omega
  have i4 : (k : Int) < 13 := by omega
  have j1 : (0 : Int) ≤ (hw : Int) := by omega
  have j2 : (hw : Int) < 4 := by omega
  obtain ⟨ms, hM, hMO⟩ := hI.mem
  have HI := Lib.hid hI
  have HE := Lib.hid he
  have HHW := Lib.hid hhw
  have HNX := Lib.hid htv2
  have HN0 := Lib.hid hnx
  have HNXE := Lib.hid (show tv - 1 = nextI (s.t t).how (Ev.mk (t : Int) (k : Int) a x o er).kind (Ev.mk (t : Int) (k : Int) a x o er).err by rw [hhw]; exact htv2)
  have HLK := Lib.hid hlk
  have HTV := Lib.hid htv
  have HMO := Lib.hid hMO
  have HB := Lib.hid (((Below.refl w.heap.size w).alloc (Nat.le_refl _) (.cells #[.int .i64 t, .int .i64 k, .int .u64 a, .int .u64 x, .bool o, .int .i64 er] 97)).mono hbase)
  have HX := Lib.hid (BoxE.made w ⟨(t : Int), (k : Int), a, x, o, er⟩)
  have hM1 := hM.alloc (.cells #[.int .i64 t, .int .i64 k, .int .u64 a, .int .u64 x, .bool o, .int .i64 er] 97)
  rw [lF_fld] at hM1
  have HM := Lib.hid hM1
  have v1 : 1 ≤ tv := by omega
  have v2 : tv ≤ 4 := by have := next_le hw k er; omega
  clear hput hF hF1 hF2 hhr hhw hlk hM hM1 hMO hI he htv htv2 hpos hnx
  show Calls Try.prog 118 #[.pointer (some ⟨b, 0, none⟩), .int .i64 p, .agg #[.int .i64 t, .int .i64 k, .int .u64 a, .int .u64 x, .bool o, .int .i64 er]] w _
  go_enter Try.func118, Try.ntmps118
  have hgb : b ≠ w.heap.size := by have := HI.out.blk.lt.2; omega
  obtain ⟨hg, c0, c1, c2, c3, c4, c5⟩ := HX.out
  simp only at c0 c1 c2 c3 c4 c5
  go_wp2
  go_quiet (fail)
  have hbel : Below w.heap.size w ((w.alloc (.cells #[.int .i64 t, .int .i64 k, .int .u64 a, .int .u64 x, .bool o, .int .i64 er] 97)).drewN nq) := bdrewN ((Below.refl w.heap.size w).alloc (Nat.le_refl _) _) nq
  have hMW := HM.out.still (w' := (w.alloc (.cells #[.int .i64 t, .int .i64 k, .int .u64 a, .int .u64 x, .bool o, .int .i64 er] 97)).drewN nq) (fun _ _ => rfl)
  have hXW := HX.out.below (w' := (w.alloc (.cells #[.int .i64 t, .int .i64 k, .int .u64 a, .int .u64 x, .bool o, .int .i64 er] 97)).drewN nq) (bdrewN (Below.refl _ _) nq)
  have hBW := bdrewN HB.out nq
  have hIW := HI.out.kept hbel
  have HLT := Lib.hid (fun q hq => (hIW.trs.lt q hq).1 : ∀ q, (Value.slice At nt ct).ownBlock = some q → base ≤ q)
  have hgl : w.heap.size < ((w.alloc (.cells #[.int .i64 t, .int .i64 k, .int .u64 a, .int .u64 x, .bool o, .int .i64 er] 97)).drewN nq).heap.size := hXW.lt
  have HTG := Lib.hid (fun q hq => (HI.out.trs.lt q hq).2 : ∀ q, (Value.slice At nt ct).ownBlock = some q → q < w.heap.size)
  have HMG := Lib.hid (fun i x (hx : ms i = some x) => (hMW.maps i x hx).2.lt)
  clear HM HX HB hbel c0 c1 c2 c3 c4 c5 hg
  generalize ((w.alloc (.cells #[.int .i64 t, .int .i64 k, .int .u64 a, .int .u64 x, .bool o, .int .i64 er] 97)).drewN nq) = W at *
  obtain ⟨_, c0, c1, c2, c3, c4, c5⟩ := id hXW
  simp only at c0 c1 c2 c3 c4 c5
  generalize w.heap.size = g at *
  have hC := hIW.cells
  have d0 := hC.how t h8
  rw [HHW.out] at d0
  have f0 := (hIW.blk.cell (j := 52 + t * 4) (by omega)).2
  have d1 := hC.snap t h8
  have f1 := (hIW.blk.cell (j := 52 + t * 4 + 1) (by omega)).2
  have d2 := hC.map t h8
  have f2 := (hIW.blk.cell (j := 52 + t * 4 + 2) (by omega)).2
  have d3 := hC.try_ t h8
  have f3 := (hIW.blk.cell (j := 52 + t * 4 + 3) (by omega)).2
  have d4 := hC.num
  have f4 := (hIW.blk.cell (j := 84) (by omega)).2
  have d5 := hC.hd
  have f5 := (hIW.blk.cell (j := 85) (by omega)).2
  have d6 := hC.trs
  have f6 := (hIW.blk.cell (j := 86) (by omega)).2
  have dt := hC.tab (hw * 13 + k) (by omega)
  rw [HTV.out] at dt
  have HMW := Lib.hid hMW
  have HIW := Lib.hid hIW
  have HXW := Lib.hid hXW
  have HBW := Lib.hid hBW
  have hzW : base ≤ W.heap.size := Nat.le_of_lt (Nat.lt_of_le_of_lt hbase hgl)
  clear hC hIW hMW hBW hXW
  obtain ⟨rfl, rfl⟩ : k = 6 ∧ hw = 2 := by have := HQ.out; omega
  clear HQ
  simp only [Nat.zero_mul, Nat.zero_add, Nat.one_mul, Nat.reduceMul, Nat.reduceAdd] at dt
  obtain ⟨hta, htb⟩ := (HIW.out.maps t h8 (by rw [HHW.out]; exact .inr rfl)).2
  obtain ⟨r, hr⟩ := Int.eq_ofNat_of_zero_le hta
  have hrn : r < nt := by omega
  obtain ⟨gt, cap', hv, _, hgt⟩ := HIW.out.trs.form (by omega)
  injection hv with hv1 _ hv3
  subst hv1 hv3
  have hbg : b ≠ gt := fun e => HMW.out.trs_ne (congrArg some e.symm)
  have hbg2 : gt ≠ b := fun e => hbg e.symm
  have hgtg : gt < g := HTG.out gt rfl
  have hgt2 : gt ≠ g := by omega
  have hgt3 : g ≠ gt := by omega
  have hbg3 : g ≠ b := fun e => hgb e.symm
  have r1 : (0 : Int) ≤ (r : Int) := by omega
  have r2 : (r : Int) < (nt : Int) := by omega
  have hbb : base ≤ b := HI.out.blk.lt.1
  have hbt : base ≤ gt := HLT.out gt rfl
  rw [hr] at d3
  go_wp2
  go_quiet (fail)
  have hIV := HIW.out.kept (bdrewN (Below.refl _ _) nq)
  have hMV := HMW.out.still (w' := W.drewN nq) (fun _ _ => rfl)
  have hXV := HXW.out.below (bdrewN (Below.refl _ _) nq)
  have hBV := bdrewN HBW.out nq
  have hzV : base ≤ (W.drewN nq).heap.size := hzW
  clear c0 c1 c2 c3 c4 c5 d0 d1 d2 d3 d4 d5 d6 f0 f1 f2 f3 f4 f5 f6 HIW HMW HXW HBW hzW hgl hgt
  have dtV : (W.drewN nq).cell? ⟨b, _, none⟩ = _ := dt
  clear dt
  generalize W.drewN nq = V at *
  obtain ⟨_, c0, c1, c2, c3, c4, c5⟩ := id hXV
  simp only at c0 c1 c2 c3 c4 c5
  have hC := hIV.cells
  have d0 := hC.how t h8
  have f0 := (hIV.blk.cell (j := 52 + t * 4) (by omega)).2
  have d1 := hC.snap t h8
  have f1 := (hIV.blk.cell (j := 52 + t * 4 + 1) (by omega)).2
  have d2 := hC.map t h8
  have f2 := (hIV.blk.cell (j := 52 + t * 4 + 2) (by omega)).2
  have d3 := hC.try_ t h8
  have f3 := (hIV.blk.cell (j := 52 + t * 4 + 3) (by omega)).2
  have d4 := hC.num
  have f4 := (hIV.blk.cell (j := 84) (by omega)).2
  have d5 := hC.hd
  have f5 := (hIV.blk.cell (j := 85) (by omega)).2
  have d6 := hC.trs
  have f6 := (hIV.blk.cell (j := 86) (by omega)).2
  rw [HHW.out] at d0
  rw [hr] at d3
  obtain ⟨⟨y2, e2, hy2⟩, g2⟩ := hMV.attempt_at (q := r * 7 + 2) (by omega)
  rw [if_neg (by omega)] at hy2
  obtain ⟨y2, rfl, z2⟩ := hy2
  clear z2
  obtain ⟨⟨y3, e3, hy3⟩, g3⟩ := hMV.attempt_at (q := r * 7 + 3) (by omega)
  rw [if_pos (by omega)] at hy3
  obtain ⟨y3, rfl⟩ := hy3
  obtain ⟨⟨y4, e4, hy4⟩, g4⟩ := hMV.attempt_at (q := r * 7 + 4) (by omega)
  rw [if_neg (by omega)] at hy4
  obtain ⟨y4, rfl, z4⟩ := hy4
  clear z4
  obtain ⟨⟨y5, e5, hy5⟩, g5⟩ := hMV.attempt_at (q := r * 7 + 5) (by omega)
  rw [if_neg (by omega)] at hy5
  obtain ⟨y5, rfl, z5⟩ := hy5
  have za5 := (z5 (by omega)).1
  have zb5 := (z5 (by omega)).2
  clear z5
  obtain ⟨⟨y6, e6, hy6⟩, g6⟩ := hMV.attempt_at (q := r * 7 + 6) (by omega)
  rw [if_neg (by omega)] at hy6
  obtain ⟨y6, rfl, z6⟩ := hy6
  have za6 := (z6 (by omega)).1
  have zb6 := (z6 (by omega)).2
  clear z6
  have HMV := Lib.hid hMV
  have HBV := Lib.hid hBV
  have HIV := Lib.hid hIV
  have HXV := Lib.hid hXV
  clear hC hIV hMV hXV hBV
  go_wp2
  go_region
  go_wp2
  go_end0
  obtain ⟨vs1, hM1⟩ := LMem.attempt (HMV.out.more (Nat.le_succ m)) (r * 7 + 2) (.int .i64 p) (by rw [if_neg (by omega)]; exact ⟨_, rfl, fun h => by omega⟩)
  obtain ⟨vs2, hM2⟩ := LMem.attempt (hM1) (r * 7 + 4) (.int .i64 6) (by rw [if_neg (by omega)]; exact ⟨_, rfl, fun h => by omega⟩)
  have hM3 := LMem.setNum (hM2) (.int .u64 x)
  have hM4 := LMem.setHd (hM3) (.int .i64 (-1))
  have hM5 := LMem.setHow (hM4) h8 (.int .i64 (tv - 1))
  have hv0 : tv - 1 = 0 := by rw [HNX.out]; simp [nextI]
  have hBF := (Below.setCell (p := ⟨b, 52 + t * 4, none⟩) (Below.setCell (p := ⟨b, 85, none⟩) (Below.setCell (p := ⟨b, 84, none⟩) (Below.setCell (p := ⟨gt, r * 7 + 4, none⟩) (Below.setCell (p := ⟨gt, r * 7 + 2, none⟩) (HBV.out) hbt (.int .i64 p)) hbt (.int .i64 6)) hbb (.int .u64 x)) hbb (.int .i64 (-1))) hbb (.int .i64 (tv - 1))).drew
  exact ⟨rfl, hBF, mp, tr, (-1), some ⟨gt, 0, none⟩, ct, nt, vs2, LMem.fin (t := t) (nx := tv - 1) HI.out (by rw [adv_fld s _ (t := t) (by simp) HNXE.out, if_neg (by simp), if_pos (by simp [HHW.out])]; exact hM5.drew) (by simp) HE.out (by omega) HNXE.out HMO.out (fun i _ => ⟨rfl, rfl, rfl⟩) ⟨Nat.le_refl _, Nat.le_succ_of_le HI.out.few⟩ (fun h => by rcases h with h | h <;> omega) (fun h => by rcases h with h | h <;> omega) (hold_free (t := t) HI.out (by simp) h8 HNXE.out (by omega) (by rw [HHW.out]; rfl))⟩
set_option linter.unusedSimpArgs false in
set_option maxRecDepth 100000 in
set_option maxHeartbeats 6400000 in
theorem take_7 (base b m : Nat) (p : Int) (s : SS) (mp : Nat → Option Nat) (tr : Nat → Int) (hd : Int) (At : Option Addr) (ct nt : Nat) (vs : List Value) (e : Ev) (w : World) (he : e.Wd) (hI : LInv w base b m s mp tr hd At ct nt vs) (hput : putE s e = 0) (hq : e.kind = 7 ∧ (s.t e.th.toNat).how = 1) (hbase : base ≤ w.heap.size) :
    Calls Try.prog 118 #[.pointer (some ⟨b, 0, none⟩), .int .i64 p, evV e] w fun e' w' => e' = .returned (.tuple #[]) ∧ Below base w w' ∧ ∃ mp' tr' hd' At' ct' nt' vs', LInv w' base b (m + 1) (adv s e) mp' tr' hd' At' ct' nt' vs' := by
  obtain ⟨t, k, a, x, o, er⟩ := e
  simp only at hq
  have hF : Fm ⟨t, k, a, x, o, er⟩ := by
    unfold putE at hput
    split at hput
    · cases hput
    · rename_i h; exact Classical.not_not.1 h
  have hF1 := hF.1
  have hF2 := hF.2.1
  simp only at hF1 hF2
  obtain ⟨t, rfl⟩ := Int.eq_ofNat_of_zero_le hF1.1
  obtain ⟨k, rfl⟩ := Int.eq_ofNat_of_zero_le (show 0 ≤ k by omega)
  have hhr := hI.how t (by omega)
  obtain ⟨hw, hhw⟩ := Int.eq_ofNat_of_zero_le hhr.1
  simp only [Int.toNat_natCast, hhw] at hq
  have HQ := Lib.hid hq
  clear hq
  obtain ⟨h8, hk, hnx, hlk, _⟩ := put_ok hput hhw (by omega)
  have h4 : hw < 4 := by omega
  obtain ⟨tv, htv, _, hpos⟩ := tab_next h4 hk er
  have htv2 := hpos hnx
  have i1 : (0 : Int) ≤ (t : Int) := by omega
  have i2 : (t : Int) < 8 := by omega
  have i3 : (0 : Int) ≤ (k : Int) := by omega
  have i4 : (k : Int) < 13 := by omega
  have j1 : (0 : Int) ≤ (hw : Int) := by omega
  have j2 : (hw : Int) < 4 := by omega
  obtain ⟨ms, hM, hMO⟩ := hI.mem
  have HI := Lib.hid hI
  have HE := Lib.hid he
  have HHW := Lib.hid hhw
  have HNX := Lib.hid htv2
  have HN0 := Lib.hid hnx
  have HNXE := Lib.hid (show tv - 1 = nextI (s.t t).how (Ev.mk (t : Int) (k : Int) a x o er).kind (Ev.mk (t : Int) (k : Int) a x o er).err by rw [hhw]; exact htv2)
  have HLK := Lib.hid hlk
  have HTV := Lib.hid htv
  have HMO := Lib.hid hMO
  have HB := Lib.hid (((Below.refl w.heap.size w).alloc (Nat.le_refl _) (.cells #[.int .i64 t, .int .i64 k, .int .u64 a, .int .u64 x, .bool o, .int .i64 er] 97)).mono hbase)
  have HX := Lib.hid (BoxE.made w ⟨(t : Int), (k : Int), a, x, o, er⟩)
  have hM1 := hM.alloc (.cells #[.int .i64 t, .int .i64 k, .int .u64 a, .int .u64 x, .bool o, .int .i64 er] 97)
  rw [lF_fld] at hM1
  have HM := Lib.hid hM1
  have v1 : 1 ≤ tv := by omega
  have v2 : tv ≤ 4 := by have := next_le hw k er; omega
  clear hput hF hF1 hF2 hhr hhw hlk hM hM1 hMO hI he htv htv2 hpos hnx
  show Calls Try.prog 118 #[.pointer (some ⟨b, 0, none⟩), .int .i64 p, .agg #[.int .i64 t, .int .i64 k, .int .u64 a, .int .u64 x, .bool o, .int .i64 er]] w _
  go_enter Try.func118, Try.ntmps118
  have hgb : b ≠ w.heap.size := by have := HI.out.blk.lt.2; omega
  obtain ⟨hg, c0, c1, c2, c3, c4, c5⟩ := HX.out
  simp only at c0 c1 c2 c3 c4 c5
  go_wp2
  go_quiet (fail)
  have hbel : Below w.heap.size w ((w.alloc (.cells #[.int .i64 t, .int .i64 k, .int .u64 a, .int .u64 x, .bool o, .int .i64 er] 97)).drewN nq) := bdrewN ((Below.refl w.heap.size w).alloc (Nat.le_refl _) _) nq
  have hMW := HM.out.still (w' := (w.alloc (.cells #[.int .i64 t, .int .i64 k, .int .u64 a, .int .u64 x, .bool o, .int .i64 er] 97)).drewN nq) (fun _ _ => rfl)
  have hXW := HX.out.below (w' := (w.alloc (.cells #[.int .i64 t, .int .i64 k, .int .u64 a, .int .u64 x, .bool o, .int .i64 er] 97)).drewN nq) (bdrewN (Below.refl _ _) nq)
  have hBW := bdrewN HB.out nq
  have hIW := HI.out.kept hbel
  have HLT := Lib.hid (fun q hq => (hIW.trs.lt q hq).1 : ∀ q, (Value.slice At nt ct).ownBlock = some q → base ≤ q)
  have hgl : w.heap.size < ((w.alloc (.cells #[.int .i64 t, .int .i64 k, .int .u64 a, .int .u64 x, .bool o, .int .i64 er] 97)).drewN nq).heap.size := hXW.lt
  have HTG := Lib.hid (fun q hq => (HI.out.trs.lt q hq).2 : ∀ q, (Value.slice At nt ct).ownBlock = some q → q < w.heap.size)
  have HMG := Lib.hid (fun i x (hx : ms i = some x) => (hMW.maps i x hx).2.lt)
  clear HM HX HB hbel c0 c1 c2 c3 c4 c5 hg
  generalize ((w.alloc (.cells #[.int .i64 t, .int .i64 k, .int .u64 a, .int .u64 x, .bool o, .int .i64 er] 97)).drewN nq) = W at *
  obtain ⟨_, c0, c1, c2, c3, c4, c5⟩ := id hXW
  simp only at c0 c1 c2 c3 c4 c5
  generalize w.heap.size = g at *
  have hC := hIW.cells
  have d0 := hC.how t h8
  rw [HHW.out] at d0
  have f0 := (hIW.blk.cell (j := 52 + t * 4) (by omega)).2
  have d1 := hC.snap t h8
  have f1 := (hIW.blk.cell (j := 52 + t * 4 + 1) (by omega)).2
  have d2 := hC.map t h8
  have f2 := (hIW.blk.cell (j := 52 + t * 4 + 2) (by omega)).2
  have d3 := hC.try_ t h8
  have f3 := (hIW.blk.cell (j := 52 + t * 4 + 3) (by omega)).2
  have d4 := hC.num
  have f4 := (hIW.blk.cell (j := 84) (by omega)).2
  have d5 := hC.hd
  have f5 := (hIW.blk.cell (j := 85) (by omega)).2
  have d6 := hC.trs
  have f6 := (hIW.blk.cell (j := 86) (by omega)).2
  have dt := hC.tab (hw * 13 + k) (by omega)
  rw [HTV.out] at dt
  have HMW := Lib.hid hMW
  have HIW := Lib.hid hIW
  have HXW := Lib.hid hXW
  have HBW := Lib.hid hBW
  have hzW : base ≤ W.heap.size := Nat.le_of_lt (Nat.lt_of_le_of_lt hbase hgl)
  clear hC hIW hMW hBW hXW
  obtain ⟨rfl, rfl⟩ : k = 7 ∧ hw = 1 := by have := HQ.out; omega
  clear HQ
  simp only [Nat.zero_mul, Nat.zero_add, Nat.one_mul, Nat.reduceMul, Nat.reduceAdd] at dt
  obtain ⟨hta, htb⟩ := (HIW.out.maps t h8 (by rw [HHW.out]; exact .inl rfl)).2
  obtain ⟨r, hr⟩ := Int.eq_ofNat_of_zero_le hta
  have hrn : r < nt := by omega
  obtain ⟨gt, cap', hv, _, hgt⟩ := HIW.out.trs.form (by omega)
  injection hv with hv1 _ hv3
  subst hv1 hv3
  have hbg : b ≠ gt := fun e => HMW.out.trs_ne (congrArg some e.symm)
  have hbg2 : gt ≠ b := fun e => hbg e.symm
  have hgtg : gt < g := HTG.out gt rfl
  have hgt2 : gt ≠ g := by omega
  have hgt3 : g ≠ gt := by omega
  have hbg3 : g ≠ b := fun e => hgb e.symm
  have r1 : (0 : Int) ≤ (r : Int) := by omega
  have r2 : (r : Int) < (nt : Int) := by omega
  have hbb : base ≤ b := HI.out.blk.lt.1
  have hbt : base ≤ gt := HLT.out gt rfl
  rw [hr] at d3
  go_wp2
  go_quiet (fail)
  have hIV := HIW.out.kept (bdrewN (Below.refl _ _) nq)
  have hMV := HMW.out.still (w' := W.drewN nq) (fun _ _ => rfl)
  have hXV := HXW.out.below (bdrewN (Below.refl _ _) nq)
  have hBV := bdrewN HBW.out nq
  have hzV : base ≤ (W.drewN nq).heap.size := hzW
  clear c0 c1 c2 c3 c4 c5 d0 d1 d2 d3 d4 d5 d6 f0 f1 f2 f3 f4 f5 f6 HIW HMW HXW HBW hzW hgl hgt
  have dtV : (W.drewN nq).cell? ⟨b, _, none⟩ = _ := dt
  clear dt
  generalize W.drewN nq = V at *
  obtain ⟨_, c0, c1, c2, c3, c4, c5⟩ := id hXV
  simp only at c0 c1 c2 c3 c4 c5
  have hC := hIV.cells
  have d0 := hC.how t h8
  have f0 := (hIV.blk.cell (j := 52 + t * 4) (by omega)).2
  have d1 := hC.snap t h8
  have f1 := (hIV.blk.cell (j := 52 + t * 4 + 1) (by omega)).2
  have d2 := hC.map t h8
  have f2 := (hIV.blk.cell (j := 52 + t * 4 + 2) (by omega)).2
  have d3 := hC.try_ t h8
  have f3 := (hIV.blk.cell (j := 52 + t * 4 + 3) (by omega)).2
  have d4 := hC.num
  have f4 := (hIV.blk.cell (j := 84) (by omega)).2
  have d5 := hC.hd
  have f5 := (hIV.blk.cell (j := 85) (by omega)).2
  have d6 := hC.trs
  have f6 := (hIV.blk.cell (j := 86) (by omega)).2
  rw [HHW.out] at d0
  rw [hr] at d3
  obtain ⟨⟨y2, e2, hy2⟩, g2⟩ := hMV.attempt_at (q := r * 7 + 2) (by omega)
  rw [if_neg (by omega)] at hy2
  obtain ⟨y2, rfl, z2⟩ := hy2
  clear z2
  obtain ⟨⟨y3, e3, hy3⟩, g3⟩ := hMV.attempt_at (q := r * 7 + 3) (by omega)
  rw [if_pos (by omega)] at hy3
  obtain ⟨y3, rfl⟩ := hy3
  obtain ⟨⟨y4, e4, hy4⟩, g4⟩ := hMV.attempt_at (q := r * 7 + 4) (by omega)
  rw [if_neg (by omega)] at hy4
  obtain ⟨y4, rfl, z4⟩ := hy4
  clear z4
  obtain ⟨⟨y5, e5, hy5⟩, g5⟩ := hMV.attempt_at (q := r * 7 + 5) (by omega)
  rw [if_neg (by omega)] at hy5
  obtain ⟨y5, rfl, z5⟩ := hy5
  have za5 := (z5 (by omega)).1
  have zb5 := (z5 (by omega)).2
  clear z5
  obtain ⟨⟨y6, e6, hy6⟩, g6⟩ := hMV.attempt_at (q := r * 7 + 6) (by omega)
  rw [if_neg (by omega)] at hy6
  obtain ⟨y6, rfl, z6⟩ := hy6
  have za6 := (z6 (by omega)).1
  have zb6 := (z6 (by omega)).2
  clear z6
  have HMV := Lib.hid hMV
  have HBV := Lib.hid hBV
  have HIV := Lib.hid hIV
  have HXV := Lib.hid hXV
  clear hC hIV hMV hXV hBV
  go_wp2
  go_region
  go_wp2
  go_end0
  obtain ⟨vs1, hM1⟩ := LMem.attempt (HMV.out.more (Nat.le_succ m)) (r * 7 + 2) (.int .i64 p) (by rw [if_neg (by omega)]; exact ⟨_, rfl, fun h => by omega⟩)
  obtain ⟨vs2, hM2⟩ := LMem.attempt (hM1) (r * 7 + 4) (.int .i64 7) (by rw [if_neg (by omega)]; exact ⟨_, rfl, fun h => by omega⟩)
  have hM3 := LMem.setHow (hM2) h8 (.int .i64 (tv - 1))
  have hv0 : tv - 1 = 0 := by rw [HNX.out]; simp [nextI]
  have hBF := (Below.setCell (p := ⟨b, 52 + t * 4, none⟩) (Below.setCell (p := ⟨gt, r * 7 + 4, none⟩) (Below.setCell (p := ⟨gt, r * 7 + 2, none⟩) (HBV.out) hbt (.int .i64 p)) hbt (.int .i64 7)) hbb (.int .i64 (tv - 1))).drew
  exact ⟨rfl, hBF, mp, tr, hd, some ⟨gt, 0, none⟩, ct, nt, vs2, LMem.fin (t := t) (nx := tv - 1) HI.out (by rw [adv_fld s _ (t := t) (by simp) HNXE.out, if_neg (by simp), if_neg (by simp)]; exact hM3.drew) (by simp) HE.out (by omega) HNXE.out HMO.out (fun i _ => ⟨rfl, rfl, rfl⟩) ⟨Nat.le_refl _, Nat.le_succ_of_le HI.out.few⟩ (fun h => by rcases h with h | h <;> omega) (fun h => by rcases h with h | h <;> omega) (hold_same (t := t) HI.out (by simp) HNXE.out (by omega) (by rw [HHW.out]; decide))⟩
set_option linter.unusedSimpArgs false in
set_option maxRecDepth 100000 in
set_option maxHeartbeats 6400000 in
theorem take_8 (base b m : Nat) (p : Int) (s : SS) (mp : Nat → Option Nat) (tr : Nat → Int) (hd : Int) (At : Option Addr) (ct nt : Nat) (vs : List Value) (e : Ev) (w : World) (he : e.Wd) (hI : LInv w base b m s mp tr hd At ct nt vs) (hput : putE s e = 0) (hq : e.kind = 8 ∧ (s.t e.th.toNat).how = 1) (hbase : base ≤ w.heap.size) :
    Calls Try.prog 118 #[.pointer (some ⟨b, 0, none⟩), .int .i64 p, evV e] w fun e' w' => e' = .returned (.tuple #[]) ∧ Below base w w' ∧ ∃ mp' tr' hd' At' ct' nt' vs', LInv w' base b (m + 1) (adv s e) mp' tr' hd' At' ct' nt' vs' := by
  obtain ⟨t, k, a, x, o, er⟩ := e
  simp only at hq
  have hF : Fm ⟨t, k, a, x, o, er⟩ := by
    unfold putE at hput
    split at hput
    · cases hput
    · rename_i h; exact Classical.not_not.1 h
  have hF1 := hF.1
  have hF2 := hF.2.1
  simp only at hF1 hF2
  obtain ⟨t, rfl⟩ := Int.eq_ofNat_of_zero_le hF1.1
  obtain ⟨k, rfl⟩ := Int.eq_ofNat_of_zero_le (show 0 ≤ k by omega)
  have hhr := hI.how t (by omega)
  obtain ⟨hw, hhw⟩ := Int.eq_ofNat_of_zero_le hhr.1
  simp only [Int.toNat_natCast, hhw] at hq
  have HQ := Lib.hid hq
  clear hq
  obtain ⟨h8, hk, hnx, hlk, _⟩ := put_ok hput hhw (by omega)
  have h4 : hw < 4 := by omega
  obtain ⟨tv, htv, _, hpos⟩ := tab_next h4 hk er
  have htv2 := hpos hnx
  have i1 : (0 : Int) ≤ (t : Int) := by omega
  have i2 : (t : Int) < 8 := by omega
  have i3 : (0 : Int) ≤ (k : Int) := by omega
  have i4 : (k : Int) < 13 := by omega
  have j1 : (0 : Int) ≤ (hw : Int) := by omega
  have j2 : (hw : Int) < 4 := by omega
  obtain ⟨ms, hM, hMO⟩ := hI.mem
  have HI := Lib.hid hI
  have HE := Lib.hid he
  have HHW := Lib.hid hhw
  have HNX := Lib.hid htv2
  have HN0 := Lib.hid hnx
  have HNXE := Lib.hid (show tv - 1 = nextI (s.t t).how (Ev.mk (t : Int) (k : Int) a x o er).kind (Ev.mk (t : Int) (k : Int) a x o er).err by rw [hhw]; exact htv2)
  have HLK := Lib.hid hlk
  have HTV := Lib.hid htv
  have HMO := Lib.hid hMO
  have HB := Lib.hid (((Below.refl w.heap.size w).alloc (Nat.le_refl _) (.cells #[.int .i64 t, .int .i64 k, .int .u64 a, .int .u64 x, .bool o, .int .i64 er] 97)).mono hbase)
  have HX := Lib.hid (BoxE.made w ⟨(t : Int), (k : Int), a, x, o, er⟩)
  have hM1 := hM.alloc (.cells #[.int .i64 t, .int .i64 k, .int .u64 a, .int .u64 x, .bool o, .int .i64 er] 97)
  rw [lF_fld] at hM1
  have HM := Lib.hid hM1
  have v1 : 1 ≤ tv := by omega
  have v2 : tv ≤ 4 := by have := next_le hw k er; omega
  clear hput hF hF1 hF2 hhr hhw hlk hM hM1 hMO hI he htv htv2 hpos hnx
  show Calls Try.prog 118 #[.pointer (some ⟨b, 0, none⟩), .int .i64 p, .agg #[.int .i64 t, .int .i64 k, .int .u64 a, .int .u64 x, .bool o, .int .i64 er]] w _
  go_enter Try.func118, Try.ntmps118
  have hgb : b ≠ w.heap.size := by have := HI.out.blk.lt.2; omega
  obtain ⟨hg, c0, c1, c2, c3, c4, c5⟩ := HX.out
  simp only at c0 c1 c2 c3 c4 c5
  go_wp2
  go_quiet (fail)
  have hbel : Below w.heap.size w ((w.alloc (.cells #[.int .i64 t, .int .i64 k, .int .u64 a, .int .u64 x, .bool o, .int .i64 er] 97)).drewN nq) := bdrewN ((Below.refl w.heap.size w).alloc (Nat.le_refl _) _) nq
  have hMW := HM.out.still (w' := (w.alloc (.cells #[.int .i64 t, .int .i64 k, .int .u64 a, .int .u64 x, .bool o, .int .i64 er] 97)).drewN nq) (fun _ _ => rfl)
  have hXW := HX.out.below (w' := (w.alloc (.cells #[.int .i64 t, .int .i64 k, .int .u64 a, .int .u64 x, .bool o, .int .i64 er] 97)).drewN nq) (bdrewN (Below.refl _ _) nq)
  have hBW := bdrewN HB.out nq
  have hIW := HI.out.kept hbel
  have HLT := Lib.hid (fun q hq => (hIW.trs.lt q hq).1 : ∀ q, (Value.slice At nt ct).ownBlock = some q → base ≤ q)
  have hgl : w.heap.size < ((w.alloc (.cells #[.int .i64 t, .int .i64 k, .int .u64 a, .int .u64 x, .bool o, .int .i64 er] 97)).drewN nq).heap.size := hXW.lt
  have HTG := Lib.hid (fun q hq => (HI.out.trs.lt q hq).2 : ∀ q, (Value.slice At nt ct).ownBlock = some q → q < w.heap.size)
  have HMG := Lib.hid (fun i x (hx : ms i = some x) => (hMW.maps i x hx).2.lt)
  clear HM HX HB hbel c0 c1 c2 c3 c4 c5 hg
  generalize ((w.alloc (.cells #[.int .i64 t, .int .i64 k, .int .u64 a, .int .u64 x, .bool o, .int .i64 er] 97)).drewN nq) = W at *
  obtain ⟨_, c0, c1, c2, c3, c4, c5⟩ := id hXW
  simp only at c0 c1 c2 c3 c4 c5
  generalize w.heap.size = g at *
  have hC := hIW.cells
  have d0 := hC.how t h8
  rw [HHW.out] at d0
  have f0 := (hIW.blk.cell (j := 52 + t * 4) (by omega)).2
  have d1 := hC.snap t h8
  have f1 := (hIW.blk.cell (j := 52 + t * 4 + 1) (by omega)).2
  have d2 := hC.map t h8
  have f2 := (hIW.blk.cell (j := 52 + t * 4 + 2) (by omega)).2
  have d3 := hC.try_ t h8
  have f3 := (hIW.blk.cell (j := 52 + t * 4 + 3) (by omega)).2
  have d4 := hC.num
  have f4 := (hIW.blk.cell (j := 84) (by omega)).2
  have d5 := hC.hd
  have f5 := (hIW.blk.cell (j := 85) (by omega)).2
  have d6 := hC.trs
  have f6 := (hIW.blk.cell (j := 86) (by omega)).2
  have dt := hC.tab (hw * 13 + k) (by omega)
  rw [HTV.out] at dt
  have HMW := Lib.hid hMW
  have HIW := Lib.hid hIW
  have HXW := Lib.hid hXW
  have HBW := Lib.hid hBW
  have hzW : base ≤ W.heap.size := Nat.le_of_lt (Nat.lt_of_le_of_lt hbase hgl)
  clear hC hIW hMW hBW hXW
  obtain ⟨rfl, rfl⟩ : k = 8 ∧ hw = 1 := by have := HQ.out; omega
  clear HQ
  simp only [Nat.zero_mul, Nat.zero_add, Nat.one_mul, Nat.reduceMul, Nat.reduceAdd] at dt
  obtain ⟨hta, htb⟩ := (HIW.out.maps t h8 (by rw [HHW.out]; exact .inl rfl)).2
  obtain ⟨r, hr⟩ := Int.eq_ofNat_of_zero_le hta
  have hrn : r < nt := by omega
  obtain ⟨gt, cap', hv, _, hgt⟩ := HIW.out.trs.form (by omega)
  injection hv with hv1 _ hv3
  subst hv1 hv3
  have hbg : b ≠ gt := fun e => HMW.out.trs_ne (congrArg some e.symm)
  have hbg2 : gt ≠ b := fun e => hbg e.symm
  have hgtg : gt < g := HTG.out gt rfl
  have hgt2 : gt ≠ g := by omega
  have hgt3 : g ≠ gt := by omega
  have hbg3 : g ≠ b := fun e => hgb e.symm
  have r1 : (0 : Int) ≤ (r : Int) := by omega
  have r2 : (r : Int) < (nt : Int) := by omega
  have hbb : base ≤ b := HI.out.blk.lt.1
  have hbt : base ≤ gt := HLT.out gt rfl
  rw [hr] at d3
  go_wp2
  go_quiet (fail)
  have hIV := HIW.out.kept (bdrewN (Below.refl _ _) nq)
  have hMV := HMW.out.still (w' := W.drewN nq) (fun _ _ => rfl)
  have hXV := HXW.out.below (bdrewN (Below.refl _ _) nq)
  have hBV := bdrewN HBW.out nq
  have hzV : base ≤ (W.drewN nq).heap.size := hzW
  clear c0 c1 c2 c3 c4 c5 d0 d1 d2 d3 d4 d5 d6 f0 f1 f2 f3 f4 f5 f6 HIW HMW HXW HBW hzW hgl hgt
  have dtV : (W.drewN nq).cell? ⟨b, _, none⟩ = _ := dt
  clear dt
  generalize W.drewN nq = V at *
  obtain ⟨_, c0, c1, c2, c3, c4, c5⟩ := id hXV
  simp only at c0 c1 c2 c3 c4 c5
  have hC := hIV.cells
  have d0 := hC.how t h8
  have f0 := (hIV.blk.cell (j := 52 + t * 4) (by omega)).2
  have d1 := hC.snap t h8
  have f1 := (hIV.blk.cell (j := 52 + t * 4 + 1) (by omega)).2
  have d2 := hC.map t h8
  have f2 := (hIV.blk.cell (j := 52 + t * 4 + 2) (by omega)).2
  have d3 := hC.try_ t h8
  have f3 := (hIV.blk.cell (j := 52 + t * 4 + 3) (by omega)).2
  have d4 := hC.num
  have f4 := (hIV.blk.cell (j := 84) (by omega)).2
  have d5 := hC.hd
  have f5 := (hIV.blk.cell (j := 85) (by omega)).2
  have d6 := hC.trs
  have f6 := (hIV.blk.cell (j := 86) (by omega)).2
  rw [HHW.out] at d0
  rw [hr] at d3
  obtain ⟨⟨y2, e2, hy2⟩, g2⟩ := hMV.attempt_at (q := r * 7 + 2) (by omega)
  rw [if_neg (by omega)] at hy2
  obtain ⟨y2, rfl, z2⟩ := hy2
  clear z2
  obtain ⟨⟨y3, e3, hy3⟩, g3⟩ := hMV.attempt_at (q := r * 7 + 3) (by omega)
  rw [if_pos (by omega)] at hy3
  obtain ⟨y3, rfl⟩ := hy3
  obtain ⟨⟨y4, e4, hy4⟩, g4⟩ := hMV.attempt_at (q := r * 7 + 4) (by omega)
  rw [if_neg (by omega)] at hy4
  obtain ⟨y4, rfl, z4⟩ := hy4
  clear z4
  obtain ⟨⟨y5, e5, hy5⟩, g5⟩ := hMV.attempt_at (q := r * 7 + 5) (by omega)
  rw [if_neg (by omega)] at hy5
  obtain ⟨y5, rfl, z5⟩ := hy5
  have za5 := (z5 (by omega)).1
  have zb5 := (z5 (by omega)).2
  clear z5
  obtain ⟨⟨y6, e6, hy6⟩, g6⟩ := hMV.attempt_at (q := r * 7 + 6) (by omega)
  rw [if_neg (by omega)] at hy6
  obtain ⟨y6, rfl, z6⟩ := hy6
  have za6 := (z6 (by omega)).1
  have zb6 := (z6 (by omega)).2
  clear z6
  have HMV := Lib.hid hMV
  have HBV := Lib.hid hBV
  have HIV := Lib.hid hIV
  have HXV := Lib.hid hXV
  clear hC hIV hMV hXV hBV
  go_wp2
  go_region
  go_wp2
  go_end0
  obtain ⟨vs1, hM1⟩ := LMem.attempt (HMV.out.more (Nat.le_succ m)) (r * 7 + 2) (.int .i64 p) (by rw [if_neg (by omega)]; exact ⟨_, rfl, fun h => by omega⟩)
  obtain ⟨vs2, hM2⟩ := LMem.attempt (hM1) (r * 7 + 4) (.int .i64 8) (by rw [if_neg (by omega)]; exact ⟨_, rfl, fun h => by omega⟩)
  have hM3 := LMem.setHow (hM2) h8 (.int .i64 (tv - 1))
  have hv0 : tv - 1 = 0 := by rw [HNX.out]; simp [nextI]
  have hBF := (Below.setCell (p := ⟨b, 52 + t * 4, none⟩) (Below.setCell (p := ⟨gt, r * 7 + 4, none⟩) (Below.setCell (p := ⟨gt, r * 7 + 2, none⟩) (HBV.out) hbt (.int .i64 p)) hbt (.int .i64 8)) hbb (.int .i64 (tv - 1))).drew
  exact ⟨rfl, hBF, mp, tr, hd, some ⟨gt, 0, none⟩, ct, nt, vs2, LMem.fin (t := t) (nx := tv - 1) HI.out (by rw [adv_fld s _ (t := t) (by simp) HNXE.out, if_neg (by simp), if_neg (by simp)]; exact hM3.drew) (by simp) HE.out (by omega) HNXE.out HMO.out (fun i _ => ⟨rfl, rfl, rfl⟩) ⟨Nat.le_refl _, Nat.le_succ_of_le HI.out.few⟩ (fun h => by rcases h with h | h <;> omega) (fun h => by rcases h with h | h <;> omega) (hold_same (t := t) HI.out (by simp) HNXE.out (by omega) (by rw [HHW.out]; decide))⟩
set_option linter.unusedSimpArgs false in
set_option maxRecDepth 100000 in
set_option maxHeartbeats 6400000 in
theorem take_9 (base b m : Nat) (p : Int) (s : SS) (mp : Nat → Option Nat) (tr : Nat → Int) (hd : Int) (At : Option Addr) (ct nt : Nat) (vs : List Value) (e : Ev) (w : World) (he : e.Wd) (hI : LInv w base b m s mp tr hd At ct nt vs) (hput : putE s e = 0) (hq : e.kind = 9 ∧ (s.t e.th.toNat).how = 1) (hbase : base ≤ w.heap.size) :
    Calls Try.prog 118 #[.pointer (some ⟨b, 0, none⟩), .int .i64 p, evV e] w fun e' w' => e' = .returned (.tuple #[]) ∧ Below base w w' ∧ ∃ mp' tr' hd' At' ct' nt' vs', LInv w' base b (m + 1) (adv s e) mp' tr' hd' At' ct' nt' vs' := by
  obtain ⟨t, k, a, x, o, er⟩ := e
  simp only at hq
  have hF : Fm ⟨t, k, a, x, o, er⟩ := by
    unfold putE at hput
    split at hput
    · cases hput
    · rename_i h; exact Classical.not_not.1 h
  have hF1 := hF.1
  have hF2 := hF.2.1
  simp only at hF1 hF2
  obtain ⟨t, rfl⟩ := Int.eq_ofNat_of_zero_le hF1.1
  obtain ⟨k, rfl⟩ := Int.eq_ofNat_of_zero_le (show 0 ≤ k by omega)
  have hhr := hI.how t (by omega)
  obtain ⟨hw, hhw⟩ := Int.eq_ofNat_of_zero_le hhr.1
  simp only [Int.toNat_natCast, hhw] at hq
  have HQ := Lib.hid hq
  clear hq
  obtain ⟨h8, hk, hnx, hlk, _⟩ := put_ok hput hhw (by omega)
  have h4 : hw < 4 := by omega
  obtain ⟨tv, htv, _, hpos⟩ := tab_next h4 hk er
  have htv2 := hpos hnx
  have i1 : (0 : Int) ≤ (t : Int) := by omega
  have i2 : (t : Int) < 8 := by omega
  have i3 : (0 : Int) ≤ (k : Int) := by omega
  have i4 : (k : Int) < 13 := by omega
  have j1 : (0 : Int) ≤ (hw : Int) := by omega
  have j2 : (hw : Int) < 4 := by omega
  obtain ⟨ms, hM, hMO⟩ := hI.mem
  have HI := Lib.hid hI
  have HE := Lib.hid he
  have HHW := Lib.hid hhw
  have HNX := Lib.hid htv2
  have HN0 := Lib.hid hnx
  have HNXE := Lib.hid (show tv - 1 = nextI (s.t t).how (Ev.mk (t : Int) (k : Int) a x o er).kind (Ev.mk (t : Int) (k : Int) a x o er).err by rw [hhw]; exact htv2)
  have HLK := Lib.hid hlk
  have HTV := Lib.hid htv
  have HMO := Lib.hid hMO
  have HB := Lib.hid (((Below.refl w.heap.size w).alloc (Nat.le_refl _) (.cells #[.int .i64 t, .int .i64 k, .int .u64 a, .int .u64 x, .bool o, .int .i64 er] 97)).mono hbase)
  have HX := Lib.hid (BoxE.made w ⟨(t : Int), (k : Int), a, x, o, er⟩)
  have hM1 := hM.alloc (.cells #[.int .i64 t, .int .i64 k, .int .u64 a, .int .u64 x, .bool o, .int .i64 er] 97)
  rw [lF_fld] at hM1
  have HM := Lib.hid hM1
  have v1 : 1 ≤ tv := by omega
  have v2 : tv ≤ 4 := by have := next_le hw k er; omega
  clear hput hF hF1 hF2 hhr hhw hlk hM hM1 hMO hI he htv htv2 hpos hnx
  show Calls Try.prog 118 #[.pointer (some ⟨b, 0, none⟩), .int .i64 p, .agg #[.int .i64 t, .int .i64 k, .int .u64 a, .int .u64 x, .bool o, .int .i64 er]] w _
  go_enter Try.func118, Try.ntmps118
  have hgb : b ≠ w.heap.size := by have := HI.out.blk.lt.2; omega
  obtain ⟨hg, c0, c1, c2, c3, c4, c5⟩ := HX.out
  simp only at c0 c1 c2 c3 c4 c5
  go_wp2
  go_quiet (fail)
  have hbel : Below w.heap.size w ((w.alloc (.cells #[.int .i64 t, .int .i64 k, .int .u64 a, .int .u64 x, .bool o, .int .i64 er] 97)).drewN nq) := bdrewN ((Below.refl w.heap.size w).alloc (Nat.le_refl _) _) nq
  have hMW := HM.out.still (w' := (w.alloc (.cells #[.int .i64 t, .int .i64 k, .int .u64 a, .int .u64 x, .bool o, .int .i64 er] 97)).drewN nq) (fun _ _ => rfl)
  have hXW := HX.out.below (w' := (w.alloc (.cells #[.int .i64 t, .int .i64 k, .int .u64 a, .int .u64 x, .bool o, .int .i64 er] 97)).drewN nq) (bdrewN (Below.refl _ _) nq)
  have hBW := bdrewN HB.out nq
  have hIW := HI.out.kept hbel
  have HLT := Lib.hid (fun q hq => (hIW.trs.lt q hq).1 : ∀ q, (Value.slice At nt ct).ownBlock = some q → base ≤ q)
  have hgl : w.heap.size < ((w.alloc (.cells #[.int .i64 t, .int .i64 k, .int .u64 a, .int .u64 x, .bool o, .int .i64 er] 97)).drewN nq).heap.size := hXW.lt
  have HTG := Lib.hid (fun q hq => (HI.out.trs.lt q hq).2 : ∀ q, (Value.slice At nt ct).ownBlock = some q → q < w.heap.size)
  have HMG := Lib.hid (fun i x (hx : ms i = some x) => (hMW.maps i x hx).2.lt)
  clear HM HX HB hbel c0 c1 c2 c3 c4 c5 hg
  generalize ((w.alloc (.cells #[.int .i64 t, .int .i64 k, .int .u64 a, .int .u64 x, .bool o, .int .i64 er] 97)).drewN nq) = W at *
  obtain ⟨_, c0, c1, c2, c3, c4, c5⟩ := id hXW
  simp only at c0 c1 c2 c3 c4 c5
  generalize w.heap.size = g at *
  have hC := hIW.cells
  have d0 := hC.how t h8
  rw [HHW.out] at d0
  have f0 := (hIW.blk.cell (j := 52 + t * 4) (by omega)).2
  have d1 := hC.snap t h8
  have f1 := (hIW.blk.cell (j := 52 + t * 4 + 1) (by omega)).2
  have d2 := hC.map t h8
  have f2 := (hIW.blk.cell (j := 52 + t * 4 + 2) (by omega)).2
  have d3 := hC.try_ t h8
  have f3 := (hIW.blk.cell (j := 52 + t * 4 + 3) (by omega)).2
  have d4 := hC.num
  have f4 := (hIW.blk.cell (j := 84) (by omega)).2
  have d5 := hC.hd
  have f5 := (hIW.blk.cell (j := 85) (by omega)).2
  have d6 := hC.trs
  have f6 := (hIW.blk.cell (j := 86) (by omega)).2
  have dt := hC.tab (hw * 13 + k) (by omega)
  rw [HTV.out] at dt
  have HMW := Lib.hid hMW
  have HIW := Lib.hid hIW
  have HXW := Lib.hid hXW
  have HBW := Lib.hid hBW
  have hzW : base ≤ W.heap.size := Nat.le_of_lt (Nat.lt_of_le_of_lt hbase hgl)
  clear hC hIW hMW hBW hXW
  obtain ⟨rfl, rfl⟩ : k = 9 ∧ hw = 1 := by have := HQ.out; omega
  clear HQ
  simp only [Nat.zero_mul, Nat.zero_add, Nat.one_mul, Nat.reduceMul, Nat.reduceAdd] at dt
  obtain ⟨hta, htb⟩ := (HIW.out.maps t h8 (by rw [HHW.out]; exact .inl rfl)).2
  obtain ⟨r, hr⟩ := Int.eq_ofNat_of_zero_le hta
  have hrn : r < nt := by omega
  obtain ⟨gt, cap', hv, _, hgt⟩ := HIW.out.trs.form (by omega)
  injection hv with hv1 _ hv3
  subst hv1 hv3
  have hbg : b ≠ gt := fun e => HMW.out.trs_ne (congrArg some e.symm)
  have hbg2 : gt ≠ b := fun e => hbg e.symm
  have hgtg : gt < g := HTG.out gt rfl
  have hgt2 : gt ≠ g := by omega
  have hgt3 : g ≠ gt := by omega
  have hbg3 : g ≠ b := fun e => hgb e.symm
  have r1 : (0 : Int) ≤ (r : Int) := by omega
  have r2 : (r : Int) < (nt : Int) := by omega
  have hbb : base ≤ b := HI.out.blk.lt.1
  have hbt : base ≤ gt := HLT.out gt rfl
  rw [hr] at d3
  go_wp2
  go_quiet (fail)
  have hIV := HIW.out.kept (bdrewN (Below.refl _ _) nq)
  have hMV := HMW.out.still (w' := W.drewN nq) (fun _ _ => rfl)
  have hXV := HXW.out.below (bdrewN (Below.refl _ _) nq)
  have hBV := bdrewN HBW.out nq
  have hzV : base ≤ (W.drewN nq).heap.size := hzW
  clear c0 c1 c2 c3 c4 c5 d0 d1 d2 d3 d4 d5 d6 f0 f1 f2 f3 f4 f5 f6 HIW HMW HXW HBW hzW hgl hgt
  have dtV : (W.drewN nq).cell? ⟨b, _, none⟩ = _ := dt
  clear dt
  generalize W.drewN nq = V at *
  obtain ⟨_, c0, c1, c2, c3, c4, c5⟩ := id hXV
  simp only at c0 c1 c2 c3 c4 c5
  have hC := hIV.cells
  have d0 := hC.how t h8
  have f0 := (hIV.blk.cell (j := 52 + t * 4) (by omega)).2
  have d1 := hC.snap t h8
  have f1 := (hIV.blk.cell (j := 52 + t * 4 + 1) (by omega)).2
  have d2 := hC.map t h8
  have f2 := (hIV.blk.cell (j := 52 + t * 4 + 2) (by omega)).2
  have d3 := hC.try_ t h8
  have f3 := (hIV.blk.cell (j := 52 + t * 4 + 3) (by omega)).2
  have d4 := hC.num
  have f4 := (hIV.blk.cell (j := 84) (by omega)).2
  have d5 := hC.hd
  have f5 := (hIV.blk.cell (j := 85) (by omega)).2
  have d6 := hC.trs
  have f6 := (hIV.blk.cell (j := 86) (by omega)).2
  rw [HHW.out] at d0
  rw [hr] at d3
  obtain ⟨⟨y2, e2, hy2⟩, g2⟩ := hMV.attempt_at (q := r * 7 + 2) (by omega)
  rw [if_neg (by omega)] at hy2
  obtain ⟨y2, rfl, z2⟩ := hy2
  clear z2
  obtain ⟨⟨y3, e3, hy3⟩, g3⟩ := hMV.attempt_at (q := r * 7 + 3) (by omega)
  rw [if_pos (by omega)] at hy3
  obtain ⟨y3, rfl⟩ := hy3
  obtain ⟨⟨y4, e4, hy4⟩, g4⟩ := hMV.attempt_at (q := r * 7 + 4) (by omega)
  rw [if_neg (by omega)] at hy4
  obtain ⟨y4, rfl, z4⟩ := hy4
  clear z4
  obtain ⟨⟨y5, e5, hy5⟩, g5⟩ := hMV.attempt_at (q := r * 7 + 5) (by omega)
  rw [if_neg (by omega)] at hy5
  obtain ⟨y5, rfl, z5⟩ := hy5
  have za5 := (z5 (by omega)).1
  have zb5 := (z5 (by omega)).2
  clear z5
  obtain ⟨⟨y6, e6, hy6⟩, g6⟩ := hMV.attempt_at (q := r * 7 + 6) (by omega)
  rw [if_neg (by omega)] at hy6
  obtain ⟨y6, rfl, z6⟩ := hy6
  have za6 := (z6 (by omega)).1
  have zb6 := (z6 (by omega)).2
  clear z6
  have HMV := Lib.hid hMV
  have HBV := Lib.hid hBV
  have HIV := Lib.hid hIV
  have HXV := Lib.hid hXV
  clear hC hIV hMV hXV hBV
  go_wp2
  go_region
  go_wp2
  go_end0
  obtain ⟨vs1, hM1⟩ := LMem.attempt (HMV.out.more (Nat.le_succ m)) (r * 7 + 2) (.int .i64 p) (by rw [if_neg (by omega)]; exact ⟨_, rfl, fun h => by omega⟩)
  obtain ⟨vs2, hM2⟩ := LMem.attempt (hM1) (r * 7 + 4) (.int .i64 9) (by rw [if_neg (by omega)]; exact ⟨_, rfl, fun h => by omega⟩)
  have hM3 := LMem.setHow (hM2) h8 (.int .i64 (tv - 1))
  have hv0 : tv - 1 = 3 := by rw [HNX.out]; simp [nextI]
  have hBF := (Below.setCell (p := ⟨b, 52 + t * 4, none⟩) (Below.setCell (p := ⟨gt, r * 7 + 4, none⟩) (Below.setCell (p := ⟨gt, r * 7 + 2, none⟩) (HBV.out) hbt (.int .i64 p)) hbt (.int .i64 9)) hbb (.int .i64 (tv - 1))).drew
  exact ⟨rfl, hBF, mp, tr, hd, some ⟨gt, 0, none⟩, ct, nt, vs2, LMem.fin (t := t) (nx := tv - 1) HI.out (by rw [adv_fld s _ (t := t) (by simp) HNXE.out, if_neg (by simp), if_neg (by simp)]; exact hM3.drew) (by simp) HE.out (by omega) HNXE.out HMO.out (fun i _ => ⟨rfl, rfl, rfl⟩) ⟨Nat.le_refl _, Nat.le_succ_of_le HI.out.few⟩ (fun h => by rcases h with h | h <;> omega) (fun h => by rcases h with h | h <;> omega) (hold_same (t := t) HI.out (by simp) HNXE.out (by omega) (by rw [HHW.out]; decide))⟩
set_option linter.unusedSimpArgs false in
set_option maxRecDepth 100000 in
set_option maxHeartbeats 6400000 in
theorem take_0 (base b m : Nat) (p : Int) (s : SS) (mp : Nat → Option Nat) (tr : Nat → Int) (hd : Int) (At : Option Addr) (ct nt : Nat) (vs : List Value) (e : Ev) (w : World) (he : e.Wd) (hI : LInv w base b m s mp tr hd At ct nt vs) (hput : putE s e = 0) (hq : (e.kind = 9 ∨ e.kind = 10 ∨ e.kind = 11 ∨ e.kind = 12) ∧ (s.t e.th.toNat).how = 0) (hbase : base ≤ w.heap.size) :
    Calls Try.prog 118 #[.pointer (some ⟨b, 0, none⟩), .int .i64 p, evV e] w fun e' w' => e' = .returned (.tuple #[]) ∧ Below base w w' ∧ ∃ mp' tr' hd' At' ct' nt' vs', LInv w' base b (m + 1) (adv s e) mp' tr' hd' At' ct' nt' vs' := by
  obtain ⟨t, k, a, x, o, er⟩ := e
  simp only at hq
  have hF : Fm ⟨t, k, a, x, o, er⟩ := by
    unfold putE at hput
    split at hput
    · cases hput
    · rename_i h; exact Classical.not_not.1 h
  have hF1 := hF.1
  have hF2 := hF.2.1
  simp only at hF1 hF2
  obtain ⟨t, rfl⟩ := Int.eq_ofNat_of_zero_le hF1.1
  obtain ⟨k, rfl⟩ := Int.eq_ofNat_of_zero_le (show 0 ≤ k by omega)
  have hhr := hI.how t (by omega)
  obtain ⟨hw, hhw⟩ := Int.eq_ofNat_of_zero_le hhr.1
  simp only [Int.toNat_natCast, hhw] at hq
  have HQ := Lib.hid hq
  clear hq
  obtain ⟨h8, hk, hnx, hlk, _⟩ := put_ok hput hhw (by omega)
  have h4 : hw < 4 := by omega
  obtain ⟨tv, htv, _, hpos⟩ := tab_next h4 hk er
  have htv2 := hpos hnx
  have i1 : (0 : Int) ≤ (t : Int) := by omega
  have i2 : (t : Int) < 8 := by omega
  have i3 : (0 : Int) ≤ (k : Int) := by omega
  have i4 : (k : Int) < 13 := by omega
  have j1 : (0 : Int) ≤ (hw : Int) := by omega
  have j2 : (hw : Int) < 4 := by omega
  obtain ⟨ms, hM, hMO⟩ := hI.mem
  have HI := Lib.hid hI
  have HE := Lib.hid he
  have HHW := Lib.hid hhw
  have HNX := Lib.hid htv2
  have HN0 := Lib.hid hnx
  have HNXE := Lib.hid (show tv - 1 = nextI (s.t t).how (Ev.mk (t : Int) (k : Int) a x o er).kind (Ev.mk (t : Int) (k : Int) a x o er).err by rw [hhw]; exact htv2)
  have HLK := Lib.hid hlk
  have HTV := Lib.hid htv
  have HMO := Lib.hid hMO
  have HB := Lib.hid (((Below.refl w.heap.size w).alloc (Nat.le_refl _) (.cells #[.int .i64 t, .int .i64 k, .int .u64 a, .int .u64 x, .bool o, .int .i64 er] 97)).mono hbase)
  have HX := Lib.hid (BoxE.made w ⟨(t : Int), (k : Int), a, x, o, er⟩)
  have hM1 := hM.alloc (.cells #[.int .i64 t, .int .i64 k, .int .u64 a, .int .u64 x, .bool o, .int .i64 er] 97)
  rw [lF_fld] at hM1
  have HM := Lib.hid hM1
  have v1 : 1 ≤ tv := by omega
  have v2 : tv ≤ 4 := by have := next_le hw k er; omega
  clear hput hF hF1 hF2 hhr hhw hlk hM hM1 hMO hI he htv htv2 hpos hnx
  show Calls Try.prog 118 #[.pointer (some ⟨b, 0, none⟩), .int .i64 p, .agg #[.int .i64 t, .int .i64 k, .int .u64 a, .int .u64 x, .bool o, .int .i64 er]] w _
  go_enter Try.func118, Try.ntmps118
  have hgb : b ≠ w.heap.size := by have := HI.out.blk.lt.2; omega
  obtain ⟨hg, c0, c1, c2, c3, c4, c5⟩ := HX.out
  simp only at c0 c1 c2 c3 c4 c5
  go_wp2
  go_quiet (fail)
  have hbel : Below w.heap.size w ((w.alloc (.cells #[.int .i64 t, .int .i64 k, .int .u64 a, .int .u64 x, .bool o, .int .i64 er] 97)).drewN nq) := bdrewN ((Below.refl w.heap.size w).alloc (Nat.le_refl _) _) nq
  have hMW := HM.out.still (w' := (w.alloc (.cells #[.int .i64 t, .int .i64 k, .int .u64 a, .int .u64 x, .bool o, .int .i64 er] 97)).drewN nq) (fun _ _ => rfl)
  have hXW := HX.out.below (w' := (w.alloc (.cells #[.int .i64 t, .int .i64 k, .int .u64 a, .int .u64 x, .bool o, .int .i64 er] 97)).drewN nq) (bdrewN (Below.refl _ _) nq)
  have hBW := bdrewN HB.out nq
  have hIW := HI.out.kept hbel
  have HLT := Lib.hid (fun q hq => (hIW.trs.lt q hq).1 : ∀ q, (Value.slice At nt ct).ownBlock = some q → base ≤ q)
  have hgl : w.heap.size < ((w.alloc (.cells #[.int .i64 t, .int .i64 k, .int .u64 a, .int .u64 x, .bool o, .int .i64 er] 97)).drewN nq).heap.size := hXW.lt
  have HTG := Lib.hid (fun q hq => (HI.out.trs.lt q hq).2 : ∀ q, (Value.slice At nt ct).ownBlock = some q → q < w.heap.size)
  have HMG := Lib.hid (fun i x (hx : ms i = some x) => (hMW.maps i x hx).2.lt)
  clear HM HX HB hbel c0 c1 c2 c3 c4 c5 hg
  generalize ((w.alloc (.cells #[.int .i64 t, .int .i64 k, .int .u64 a, .int .u64 x, .bool o, .int .i64 er] 97)).drewN nq) = W at *
  obtain ⟨_, c0, c1, c2, c3, c4, c5⟩ := id hXW
  simp only at c0 c1 c2 c3 c4 c5
  generalize w.heap.size = g at *
  have hC := hIW.cells
  have d0 := hC.how t h8
  rw [HHW.out] at d0
  have f0 := (hIW.blk.cell (j := 52 + t * 4) (by omega)).2
  have d1 := hC.snap t h8
  have f1 := (hIW.blk.cell (j := 52 + t * 4 + 1) (by omega)).2
  have d2 := hC.map t h8
  have f2 := (hIW.blk.cell (j := 52 + t * 4 + 2) (by omega)).2
  have d3 := hC.try_ t h8
  have f3 := (hIW.blk.cell (j := 52 + t * 4 + 3) (by omega)).2
  have d4 := hC.num
  have f4 := (hIW.blk.cell (j := 84) (by omega)).2
  have d5 := hC.hd
  have f5 := (hIW.blk.cell (j := 85) (by omega)).2
  have d6 := hC.trs
  have f6 := (hIW.blk.cell (j := 86) (by omega)).2
  have dt := hC.tab (hw * 13 + k) (by omega)
  rw [HTV.out] at dt
  have HMW := Lib.hid hMW
  have HIW := Lib.hid hIW
  have HXW := Lib.hid hXW
  have HBW := Lib.hid hBW
  have hzW : base ≤ W.heap.size := Nat.le_of_lt (Nat.lt_of_le_of_lt hbase hgl)
  clear hC hIW hMW hBW hXW
  obtain ⟨hkk, rfl⟩ : (k = 9 ∨ k = 10 ∨ k = 11 ∨ k = 12) ∧ hw = 0 := by have := HQ.out; omega
  clear HQ
  have e1 : ((k : Int) == 1) = false := by simp; omega
  rw [Nat.zero_mul, Nat.zero_add] at dt
  have hn := HNX.out
  have hn0 := HN0.out
  have hns : tv - 1 = 0 ∨ tv - 1 = 3 := by
    rw [hn]
    rcases hkk with rfl | rfl | rfl | rfl <;> simp [nextI] at hn0 ⊢
    split at hn0 <;> simp_all
  have HNS := Lib.hid hns
  clear hn hns hn0
  have HMF := Lib.hid (((HMW.out.more (Nat.le_succ m)).setHow h8 (.int .i64 (tv - 1))).still (w' := (W.setCell ⟨b, 52 + t * 4, none⟩ (.int .i64 (tv - 1))).drew) (fun _ _ => rfl))
  have HBF := Lib.hid (HBW.out.setCell (p := ⟨b, 52 + t * 4, none⟩) HI.out.blk.lt.1 (.int .i64 (tv - 1))).drew
  go_wp2
  go_region
  go_wp2
  go_end0
  have hns := HNS.out
  refine ⟨rfl, HBF.out, mp, tr, hd, At, ct, nt, vs, LMem.fin (t := t) (nx := tv - 1) HI.out (by rw [adv_fld s _ (t := t) (by simp) HNXE.out, if_neg (show ¬ ((k : Int) = 1 ∨ (k : Int) = 4) by omega), if_neg (show ¬ ((k : Int) = 6 ∧ _) from fun h => by have := h.1; omega)]; exact HMF.out) (by simp) HE.out (by omega) HNXE.out HMO.out (fun i _ => ⟨rfl, rfl, rfl⟩) ⟨Nat.le_refl _, Nat.le_succ_of_le HI.out.few⟩ (fun h => by rcases h with h | h <;> omega) (fun h => by rcases h with h | h <;> omega) (hold_same (t := t) HI.out (by simp) HNXE.out (by omega) (by rw [HHW.out]; decide))⟩
end Go.Proofs.Ytjifpjfinffamaa
end
