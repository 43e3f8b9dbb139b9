/- Texts VA, laid together. -/
import Derived.Test.YtjifpjfinffamaaZ7
section
namespace Go.Proofs.Ytjifpjfinffamaa
open Go.RowKit Go.Maps
theorem zero40 (w : World) : (zeroValue 40).run Try.prog w = .ok (.int .u64 0) w := by kernel_rfl
set_option maxRecDepth 100000 in
theorem MDw.look {W : World} {g n : Nat} {D : DataW Unit} {l : List (Int × Int)} (hown : W.ownsMap (H := Unit) Try.prog 40 (plainElem Try.prog 40) g n D) (h : MDw D l) {a : Int} (ha : 0 ≤ a ∧ a < 18446744073709551616) :
    (Instr.lookup 187 (.map (some g)) (.int .u64 a) true).run Try.prog W = .ok (wrtV (wrt l a)) W := by
  have hwf : (Lit.int .u64 a).wf = true := WalkArith.wf_u64 (by omega)
  obtain ⟨v, ps, hrun, hv⟩ := hown.look_ok law40 Try.underlying187 (zero40 W) (plainElem_int Try.underlying40 (by decide)) (keyOf_int_mk Try.underlying40 hwf)
  obtain ⟨c, rfl, hc, _⟩ := plainElem_int_inv Try.underlying40 hv
  simp only [Prod.mk.injEq] at hc
  rw [hrun, h.has]
  have hc1 := hc.1
  cases q : wrt l a with
  | none =>
    have hno : Maps.has D (lu a) = false := by rw [h.has, q]; rfl
    rw [atKey_of_not_has hno] at hc1
    injection hc1 with hc1
    injection hc1 with _ hc1
    subst hc1
    rfl
  | some y =>
    rw [h.at_ a y q] at hc1
    injection hc1 with hc1
    injection hc1 with _ hc1
    subst hc1
    rfl
set_option linter.unusedSimpArgs false in
set_option maxRecDepth 100000 in
set_option maxHeartbeats 6400000 in
theorem wrong_any (base b m : Nat) (s : SS) (mp : Nat → Option Nat) (tr : Nat → Int) (hd : Int) (At : Option Addr) (ct nt : Nat) (vs : List Value) (e : Ev) (w : World) (he : e.Wd) (hI : LInv w base b m s mp tr hd At ct nt vs) :
    Calls Try.prog 117 #[.pointer (some ⟨b, 0, none⟩), evV e] w fun e' w' => e' = .returned (.int .i64 (putE s e)) ∧ Below w.heap.size w w' := by
  obtain ⟨t, k, a, x, o, er⟩ := e
  have HE := Lib.hid he
  have HI := Lib.hid hI
  have hb := hI.blk.lt.2
  have HB := Lib.hid ((Below.refl w.heap.size w).alloc (Nat.le_refl _) (.cells #[.int .i64 t, .int .i64 k, .int .u64 a, .int .u64 x, .bool o, .int .i64 er] 97))
  generalize hP : putE s ⟨t, k, a, x, o, er⟩ = pe
  have HP := Lib.hid hP
  clear hP he hI
  show Calls Try.prog 117 #[.pointer (some ⟨b, 0, none⟩), .agg #[.int .i64 t, .int .i64 k, .int .u64 a, .int .u64 x, .bool o, .int .i64 er]] w _
  by_cases hF : Fm ⟨t, k, a, x, o, er⟩
  · have hd1 : decide (Fm ⟨t, k, a, x, o, er⟩) = true := decide_eq_true hF
    have hth := hF.1
    have hkk := hF.2.1
    simp only at hth hkk
    obtain ⟨t, rfl⟩ := Int.eq_ofNat_of_zero_le hth.1
    obtain ⟨k, rfl⟩ := Int.eq_ofNat_of_zero_le (show 0 ≤ k by omega)
    have i1 : (0 : Int) ≤ (t : Int) := by omega
    have i2 : (t : Int) < 8 := hth.2
    have h8 : t < 8 := by omega
    have i3 : (0 : Int) ≤ (k : Int) := by omega
    have i4 : (k : Int) < 13 := by omega
    have hk : 1 ≤ k ∧ k ≤ 12 := by omega
    have hfo := fun w => evFormed_any ⟨t, k, a, x, o, er⟩ w HE.out
    rw [hd1] at hfo
    clear hth hd1 hkk
    go_enter Try.func117, Try.ntmps117
    go_wp2_with (go_at_call 137; refine halt_ ?_)
    refine Halt_.go ?_
    refine (hfo _).mono ?_
    rintro e w1 ⟨rfl, hb1⟩
    have HI1 := Lib.hid ((HI.out.kept HB.out).kept hb1)
    have HX1 := Lib.hid ((BoxE.made w ⟨t, k, a, x, o, er⟩).below hb1)
    have HB1 := Lib.hid (HB.out.trans (hb1.mono HB.out.size))
    clear hfo hb1 HI HB
    have hgb : b ≠ w.heap.size := by omega
    obtain ⟨hg, c0, c1, c2, c3, c4, c5⟩ := HX1.out
    generalize hgE : w.heap.size = g at *
    have HG := Lib.hid hgE
    clear hgE
    have d1 := HI1.out.cells.how t h8
    have hh := HI1.out.how t h8
    obtain ⟨hw, hhw⟩ := Int.eq_ofNat_of_zero_le hh.1
    have h4 : hw < 4 := by omega
    have HHW := Lib.hid hhw
    rw [hhw] at d1
    have j1 : (0 : Int) ≤ (hw : Int) := by omega
    have j2 : (hw : Int) < 4 := by omega
    obtain ⟨tv, htv, hneg, _⟩ := tab_next h4 hk er
    have d2 := HI1.out.cells.snap t h8
    have dm := HI1.out.cells.map t h8
    have d4 := HI1.out.cells.num
    have d5 := HI1.out.cells.hd
    have dt := HI1.out.cells.tab (hw * 13 + k) (by omega)
    rw [htv] at dt
    have HNEG := Lib.hid hneg
    clear hneg htv hh hhw HX1
    go_wp2
    go_quiet (fail)
    go_wp2
    by_cases h0 : tv = 0
    · have e0 : (tv == 0) = true := by simpa using h0
      have hpe : pe = 230 := by
        rw [← HP.out]
        simp only [putE, hF, not_true, if_false, Int.toNat_natCast, HHW.out, HNEG.out.2 (.inl h0), if_true]
      have HPE := Lib.hid hpe
      clear h0 hpe
      go_quiet (fail)
      go_wp2
      go_ret
      exact ⟨by rw [HPE.out]; rfl, by rw [HG.out]; first | exact bdrewN HB1.out _ | exact bdrewN (bdrewN HB1.out _) _⟩
    · have e0 : (tv == 0) = false := by simpa using h0
      by_cases hD : hw = 0 ∧ k = 9 ∧ er ≠ 4
      · have hpe : pe = 230 := by
          rw [← HP.out]
          simp only [putE, hF, not_true, if_false, Int.toNat_natCast, HHW.out, HNEG.out.2 (.inr hD), if_true]
        obtain ⟨rfl, rfl, h3⟩ := hD
        have e3 : (er != 4) = true := by simpa using h3
        have HPE := Lib.hid hpe
        clear h0 h3 hpe
        go_quiet (fail)
        go_wp2
        go_ret
        exact ⟨by rw [HPE.out]; rfl, by rw [HG.out]; first | exact bdrewN HB1.out _ | exact bdrewN (bdrewN HB1.out _) _⟩
      have hnn : ¬ nextI hw k er < 0 := fun h => by
        rcases HNEG.out.1 h with h | h
        · exact h0 h
        · exact hD h
      have HK := Lib.hid (show pe = if LockK k ∧ lockedB s t = true then 231 else if numB s ⟨t, k, a, x, o, er⟩ = false then 232 else if ownB s ⟨t, k, a, x, o, er⟩ = false then 233 else 0 by
        rw [← HP.out]
        simp only [putE, hF, not_true, if_false, Int.toNat_natCast, HHW.out, hnn])
      have hlk : hw ≠ 2 → lockedB s t = decide (0 ≤ hd) := fun h => by
        rw [Bool.eq_iff_iff, HI1.out.lock (by rw [HHW.out]; omega), decide_eq_true_eq]
      have hcl : (k = 1 ∧ hw = 0) ∨ (k = 2 ∧ hw = 1) ∨ (k = 4 ∧ hw = 1) ∨ (k = 5 ∧ hw = 1) ∨ (k = 6 ∧ hw = 1) ∨ (k = 6 ∧ hw = 2) ∨ (k = 9 ∧ hw = 0 ∧ er = 4) ∨ (k = 9 ∧ hw = 1) ∨ Hid (k ≠ 1 ∧ k ≠ 2 ∧ k ≠ 4 ∧ k ≠ 5 ∧ k ≠ 6 ∧ k ≠ 9) := by
        unfold Hid
        have hh : hw = 0 ∨ hw = 1 ∨ hw = 2 ∨ hw = 3 := by omega
        by_cases h1 : k = 1 ∨ k = 2 ∨ k = 4 ∨ k = 5 ∨ k = 6 ∨ k = 9
        · rcases h1 with rfl | rfl | rfl | rfl | rfl | rfl <;> rcases hh with rfl | rfl | rfl | rfl <;> simp [nextI] at hnn ⊢ <;> first | omega | exact Classical.byContradiction fun h => hD ⟨rfl, rfl, h⟩
        · omega
      clear hnn hD h0 HNEG HP hk
      rcases hcl with ⟨rfl, rfl⟩ | ⟨rfl, rfl⟩ | ⟨rfl, rfl⟩ | ⟨rfl, rfl⟩ | ⟨rfl, rfl⟩ | ⟨rfl, rfl⟩ | ⟨rfl, rfl, rfl⟩ | ⟨rfl, rfl⟩ | hno
      · -- begin
        by_cases hhd : 0 ≤ hd
        · skip
          by_cases q : x = IntKind.u64.wrap (2 * s.num)
          · have bq : (x == IntKind.u64.wrap (2 * s.num)) = true := by simpa using q
            have Hq := Lib.hid q
            clear q
            have hkey : pe = 231 := by
              rw [HK.out]
              simp [LockK, numB, ownB, two, hlk (by decide), hhd]
            have hpe := Lib.hid hkey
            clear hkey HK hlk
            go_quiet (fail)
            go_wp2
            go_quiet (fail)
            go_wp2
            go_ret
            exact ⟨by rw [hpe.out]; rfl, by rw [HG.out]; exact bdrewN HB1.out _⟩
          · have bq : (x == IntKind.u64.wrap (2 * s.num)) = false := by simpa using q
            have Hq := Lib.hid q
            clear q
            have hkey : pe = 231 := by
              rw [HK.out]
              simp [LockK, numB, ownB, two, hlk (by decide), hhd]
            have hpe := Lib.hid hkey
            clear hkey HK hlk
            go_quiet (fail)
            go_wp2
            go_quiet (fail)
            go_wp2
            go_ret
            exact ⟨by rw [hpe.out]; rfl, by rw [HG.out]; exact bdrewN HB1.out _⟩
        · skip
          by_cases q : x = IntKind.u64.wrap (2 * s.num)
          · have bq : (x == IntKind.u64.wrap (2 * s.num)) = true := by simpa using q
            have Hq := Lib.hid q
            clear q
            have hkey : pe = 0 := by
              rw [HK.out]
              simp [LockK, numB, ownB, two, hlk (by decide), hhd, Hq.out]
            have hpe := Lib.hid hkey
            clear hkey HK hlk
            go_quiet (fail)
            go_wp2
            go_quiet (fail)
            go_wp2
            go_ret
            exact ⟨by rw [hpe.out]; rfl, by rw [HG.out]; exact bdrewN HB1.out _⟩
          · have bq : (x == IntKind.u64.wrap (2 * s.num)) = false := by simpa using q
            have Hq := Lib.hid q
            clear q
            have hkey : pe = 232 := by
              rw [HK.out]
              simp [LockK, numB, ownB, two, hlk (by decide), hhd, Hq.out]
            have hpe := Lib.hid hkey
            clear hkey HK hlk
            go_quiet (fail)
            go_wp2
            go_quiet (fail)
            go_wp2
            go_ret
            exact ⟨by rw [hpe.out]; rfl, by rw [HG.out]; exact bdrewN HB1.out _⟩
      · -- read
        obtain ⟨⟨gm, nm_, D, hmp, _, _, hown, hMD⟩, _⟩ := HI1.out.maps t h8 (.inl (by rw [HHW.out]; rfl))
        rw [hmp] at dm
        have hlo := fun n1 => MDw.look (W := w1.drewN n1) hown hMD HE.out.1
        clear hown hMD hmp
        cases q : wrt (s.t t).wr a with
        | none =>
          rw [q] at hlo
          simp only [← wrtV_none] at hlo
          cases o with
          | false =>
            have hkey : pe = 0 := by
              rw [HK.out]
              simp [LockK, numB, ownB, two, q]
            have hpe := Lib.hid hkey
            clear hkey HK hlk q
            go_quiet (fail)
            go_wp2
            go_quiet (fail)
            go_wp2
            go_ret
            exact ⟨by rw [hpe.out]; rfl, by rw [HG.out]; exact bdrewN HB1.out _⟩
          | true =>
            have hkey : pe = 233 := by
              rw [HK.out]
              simp [LockK, numB, ownB, two, q]
            have hpe := Lib.hid hkey
            clear hkey HK hlk q
            go_quiet (fail)
            go_wp2
            go_quiet (fail)
            go_wp2
            go_ret
            exact ⟨by rw [hpe.out]; rfl, by rw [HG.out]; exact bdrewN HB1.out _⟩
        | some y =>
          rw [q] at hlo
          simp only [← wrtV_some] at hlo
          cases o with
          | false =>
            have hkey : pe = 233 := by
              rw [HK.out]
              simp [LockK, numB, ownB, two, q]
            have hpe := Lib.hid hkey
            clear hkey HK hlk q
            go_quiet (fail)
            go_wp2
            go_quiet (fail)
            go_wp2
            go_ret
            exact ⟨by rw [hpe.out]; rfl, by rw [HG.out]; exact bdrewN HB1.out _⟩
          | true =>
            by_cases q2 : y = x
            · have bq2 : (y == x) = true := by simpa using q2
              have Hq2 := Lib.hid q2
              clear q2
              have hkey : pe = 0 := by
                rw [HK.out]
                simp [LockK, numB, ownB, two, q, Hq2.out]
              have hpe := Lib.hid hkey
              clear hkey HK hlk q
              go_quiet (fail)
              go_wp2
              go_quiet (fail)
              go_wp2
              go_ret
              exact ⟨by rw [hpe.out]; rfl, by rw [HG.out]; exact bdrewN HB1.out _⟩
            · have bq2 : (y == x) = false := by simpa using q2
              have Hq2 := Lib.hid q2
              clear q2
              have hkey : pe = 233 := by
                rw [HK.out]
                simp [LockK, numB, ownB, two, q, Hq2.out]
              have hpe := Lib.hid hkey
              clear hkey HK hlk q
              go_quiet (fail)
              go_wp2
              go_quiet (fail)
              go_wp2
              go_ret
              exact ⟨by rw [hpe.out]; rfl, by rw [HG.out]; exact bdrewN HB1.out _⟩
      · -- moved
        obtain ⟨sn, hsn⟩ : ∃ sn, sn = (s.t t).snap := ⟨_, rfl⟩
        rw [← hsn] at d2
        have HSN := Lib.hid hsn
        clear hsn
        by_cases hhd : 0 ≤ hd
        · skip
          by_cases q : x = IntKind.u64.wrap (2 * s.num)
          · have bq : (x == IntKind.u64.wrap (2 * s.num)) = true := by simpa using q
            have Hq := Lib.hid q
            clear q
            by_cases hsx : sn < x
            · have bs : decide (sn < x) = true := decide_eq_true hsx
              have hkey : pe = 231 := by
                rw [HK.out]
                simp [LockK, numB, ownB, two, hlk (by decide), hhd]
              have hpe := Lib.hid hkey
              clear hkey HK hlk
              go_quiet (fail)
              go_wp2
              go_quiet (fail)
              go_wp2
              go_ret
              exact ⟨by rw [hpe.out]; rfl, by rw [HG.out]; exact bdrewN HB1.out _⟩
            · have bs : decide (sn < x) = false := decide_eq_false hsx
              have hkey : pe = 231 := by
                rw [HK.out]
                simp [LockK, numB, ownB, two, hlk (by decide), hhd]
              have hpe := Lib.hid hkey
              clear hkey HK hlk
              go_quiet (fail)
              go_wp2
              go_quiet (fail)
              go_wp2
              go_ret
              exact ⟨by rw [hpe.out]; rfl, by rw [HG.out]; exact bdrewN HB1.out _⟩
          · have bq : (x == IntKind.u64.wrap (2 * s.num)) = false := by simpa using q
            have Hq := Lib.hid q
            clear q
            have hkey : pe = 231 := by
              rw [HK.out]
              simp [LockK, numB, ownB, two, hlk (by decide), hhd]
            have hpe := Lib.hid hkey
            clear hkey HK hlk
            go_quiet (fail)
            go_wp2
            go_quiet (fail)
            go_wp2
            go_ret
            exact ⟨by rw [hpe.out]; rfl, by rw [HG.out]; exact bdrewN HB1.out _⟩
        · skip
          by_cases q : x = IntKind.u64.wrap (2 * s.num)
          · have bq : (x == IntKind.u64.wrap (2 * s.num)) = true := by simpa using q
            have Hq := Lib.hid q
            clear q
            by_cases hsx : sn < x
            · have bs : decide (sn < x) = true := decide_eq_true hsx
              have hkey : pe = 0 := by
                rw [HK.out]
                simp [LockK, numB, ownB, two, hlk (by decide), hhd, ← HSN.out, Hq.out ▸ hsx, Hq.out]
              have hpe := Lib.hid hkey
              clear hkey HK hlk
              go_quiet (fail)
              go_wp2
              go_quiet (fail)
              go_wp2
              go_ret
              exact ⟨by rw [hpe.out]; rfl, by rw [HG.out]; exact bdrewN HB1.out _⟩
            · have bs : decide (sn < x) = false := decide_eq_false hsx
              have hkey : pe = 232 := by
                rw [HK.out]
                simp [LockK, numB, ownB, two, hlk (by decide), hhd, ← HSN.out, Int.not_lt.1 (Hq.out ▸ hsx), Hq.out]
              have hpe := Lib.hid hkey
              clear hkey HK hlk
              go_quiet (fail)
              go_wp2
              go_quiet (fail)
              go_wp2
              go_ret
              exact ⟨by rw [hpe.out]; rfl, by rw [HG.out]; exact bdrewN HB1.out _⟩
          · have bq : (x == IntKind.u64.wrap (2 * s.num)) = false := by simpa using q
            have Hq := Lib.hid q
            clear q
            have hkey : pe = 232 := by
              rw [HK.out]
              simp [LockK, numB, ownB, two, hlk (by decide), hhd, Hq.out]
            have hpe := Lib.hid hkey
            clear hkey HK hlk
            go_quiet (fail)
            go_wp2
            go_quiet (fail)
            go_wp2
            go_ret
            exact ⟨by rw [hpe.out]; rfl, by rw [HG.out]; exact bdrewN HB1.out _⟩
      · -- locked
        obtain ⟨sn, hsn⟩ : ∃ sn, sn = (s.t t).snap := ⟨_, rfl⟩
        rw [← hsn] at d2
        have HSN := Lib.hid hsn
        clear hsn
        obtain ⟨⟨gm, nm_, D, hmp, _, _, hown, hMD⟩, _⟩ := HI1.out.maps t h8 (.inl (by rw [HHW.out]; rfl))
        rw [hmp] at dm
        have hle := fun n1 => World.ownsMap.len (w := w1.drewN n1) hown Try.underlying187 3
        have hsz := hMD.size
        obtain ⟨ms, hms⟩ : ∃ ms, ms = Maps.size D := ⟨_, rfl⟩
        rw [← hms] at hle hsz
        have HSZ := Lib.hid hsz
        clear hown hMD hmp hms hsz
        by_cases hhd : 0 ≤ hd
        · skip
          by_cases q : sn = IntKind.u64.wrap (2 * s.num)
          · have bq : (sn == IntKind.u64.wrap (2 * s.num)) = true := by simpa using q
            have Hq := Lib.hid q
            clear q
            by_cases hm0 : ms = 0
            · have hl0 := HSZ.out.1 hm0
              have HL0 := Lib.hid hl0
              subst hm0
              clear hl0
              have hkey : pe = 231 := by
                rw [HK.out]
                simp [LockK, numB, ownB, two, hlk (by decide), hhd]
              have hpe := Lib.hid hkey
              clear hkey HK hlk
              go_quiet (fail)
              go_wp2
              go_quiet (fail)
              go_wp2
              go_ret
              exact ⟨by rw [hpe.out]; rfl, by rw [HG.out]; exact bdrewN HB1.out _⟩
            · have hl0 : (s.t t).wr.length ≠ 0 := fun h => hm0 (HSZ.out.2 h)
              have HL0 := Lib.hid (show 0 < (s.t t).wr.length by omega)
              have hm1 : 0 < ms := by omega
              have hm2 : (0 : Int) < (ms : Int) := by omega
              have hm3 : ((ms : Int) == 0) = false := by simp; omega
              clear hl0
              have hkey : pe = 231 := by
                rw [HK.out]
                simp [LockK, numB, ownB, two, hlk (by decide), hhd]
              have hpe := Lib.hid hkey
              clear hkey HK hlk
              go_quiet (fail)
              go_wp2
              go_quiet (fail)
              go_wp2
              go_ret
              exact ⟨by rw [hpe.out]; rfl, by rw [HG.out]; exact bdrewN HB1.out _⟩
          · have bq : (sn == IntKind.u64.wrap (2 * s.num)) = false := by simpa using q
            have Hq := Lib.hid q
            clear q
            by_cases hm0 : ms = 0
            · have hl0 := HSZ.out.1 hm0
              have HL0 := Lib.hid hl0
              subst hm0
              clear hl0
              have hkey : pe = 231 := by
                rw [HK.out]
                simp [LockK, numB, ownB, two, hlk (by decide), hhd]
              have hpe := Lib.hid hkey
              clear hkey HK hlk
              go_quiet (fail)
              go_wp2
              go_quiet (fail)
              go_wp2
              go_ret
              exact ⟨by rw [hpe.out]; rfl, by rw [HG.out]; exact bdrewN HB1.out _⟩
            · have hl0 : (s.t t).wr.length ≠ 0 := fun h => hm0 (HSZ.out.2 h)
              have HL0 := Lib.hid (show 0 < (s.t t).wr.length by omega)
              have hm1 : 0 < ms := by omega
              have hm2 : (0 : Int) < (ms : Int) := by omega
              have hm3 : ((ms : Int) == 0) = false := by simp; omega
              clear hl0
              have hkey : pe = 231 := by
                rw [HK.out]
                simp [LockK, numB, ownB, two, hlk (by decide), hhd]
              have hpe := Lib.hid hkey
              clear hkey HK hlk
              go_quiet (fail)
              go_wp2
              go_quiet (fail)
              go_wp2
              go_ret
              exact ⟨by rw [hpe.out]; rfl, by rw [HG.out]; exact bdrewN HB1.out _⟩
        · skip
          by_cases q : sn = IntKind.u64.wrap (2 * s.num)
          · have bq : (sn == IntKind.u64.wrap (2 * s.num)) = true := by simpa using q
            have Hq := Lib.hid q
            clear q
            by_cases hm0 : ms = 0
            · have hl0 := HSZ.out.1 hm0
              have HL0 := Lib.hid hl0
              subst hm0
              clear hl0
              have hkey : pe = 233 := by
                rw [HK.out]
                simp [LockK, numB, ownB, two, hlk (by decide), hhd, ← HSN.out, Hq.out, HL0.out]
              have hpe := Lib.hid hkey
              clear hkey HK hlk
              go_quiet (fail)
              go_wp2
              go_quiet (fail)
              go_wp2
              go_ret
              exact ⟨by rw [hpe.out]; rfl, by rw [HG.out]; exact bdrewN HB1.out _⟩
            · have hl0 : (s.t t).wr.length ≠ 0 := fun h => hm0 (HSZ.out.2 h)
              have HL0 := Lib.hid (show 0 < (s.t t).wr.length by omega)
              have hm1 : 0 < ms := by omega
              have hm2 : (0 : Int) < (ms : Int) := by omega
              have hm3 : ((ms : Int) == 0) = false := by simp; omega
              clear hl0
              have hkey : pe = 0 := by
                rw [HK.out]
                simp [LockK, numB, ownB, two, hlk (by decide), hhd, ← HSN.out, Hq.out, List.ne_nil_of_length_pos HL0.out, HL0.out]
              have hpe := Lib.hid hkey
              clear hkey HK hlk
              go_quiet (fail)
              go_wp2
              go_quiet (fail)
              go_wp2
              go_ret
              exact ⟨by rw [hpe.out]; rfl, by rw [HG.out]; exact bdrewN HB1.out _⟩
          · have bq : (sn == IntKind.u64.wrap (2 * s.num)) = false := by simpa using q
            have Hq := Lib.hid q
            clear q
            by_cases hm0 : ms = 0
            · have hl0 := HSZ.out.1 hm0
              have HL0 := Lib.hid hl0
              subst hm0
              clear hl0
              have hkey : pe = 232 := by
                rw [HK.out]
                simp [LockK, numB, ownB, two, hlk (by decide), hhd, ← HSN.out, Hq.out]
              have hpe := Lib.hid hkey
              clear hkey HK hlk
              go_quiet (fail)
              go_wp2
              go_quiet (fail)
              go_wp2
              go_ret
              exact ⟨by rw [hpe.out]; rfl, by rw [HG.out]; exact bdrewN HB1.out _⟩
            · have hl0 : (s.t t).wr.length ≠ 0 := fun h => hm0 (HSZ.out.2 h)
              have HL0 := Lib.hid (show 0 < (s.t t).wr.length by omega)
              have hm1 : 0 < ms := by omega
              have hm2 : (0 : Int) < (ms : Int) := by omega
              have hm3 : ((ms : Int) == 0) = false := by simp; omega
              clear hl0
              have hkey : pe = 232 := by
                rw [HK.out]
                simp [LockK, numB, ownB, two, hlk (by decide), hhd, ← HSN.out, Hq.out]
              have hpe := Lib.hid hkey
              clear hkey HK hlk
              go_quiet (fail)
              go_wp2
              go_quiet (fail)
              go_wp2
              go_ret
              exact ⟨by rw [hpe.out]; rfl, by rw [HG.out]; exact bdrewN HB1.out _⟩
      · -- committed, inside
        obtain ⟨sn, hsn⟩ : ∃ sn, sn = (s.t t).snap := ⟨_, rfl⟩
        rw [← hsn] at d2
        have HSN := Lib.hid hsn
        clear hsn
        obtain ⟨⟨gm, nm_, D, hmp, _, _, hown, hMD⟩, _⟩ := HI1.out.maps t h8 (.inl (by rw [HHW.out]; rfl))
        rw [hmp] at dm
        have hle := fun n1 => World.ownsMap.len (w := w1.drewN n1) hown Try.underlying187 3
        have hsz := hMD.size
        obtain ⟨ms, hms⟩ : ∃ ms, ms = Maps.size D := ⟨_, rfl⟩
        rw [← hms] at hle hsz
        have HSZ := Lib.hid hsz
        clear hown hMD hmp hms hsz
        have hsr := HI1.out.snap t h8
        rw [← HSN.out] at hsr
        have n1 : 0 ≤ sn := hsr.1
        have n2 : sn < 18446744073709551616 := hsr.2
        have hhw := HHW.out
        have HH2 := Lib.hid hhw
        clear hsr hhw
        by_cases q : x = sn / 2
        · have bq : (x == sn / 2) = true := by simpa using q
          have Hq := Lib.hid q
          clear q
          by_cases hm0 : ms = 0
          · have hl0 := HSZ.out.1 hm0
            have HL0 := Lib.hid hl0
            subst hm0
            clear hl0
            have hkey : pe = 0 := by
              rw [HK.out]
              simp [LockK, numB, ownB, two, HH2.out, ← HSN.out, Hq.out, HL0.out, List.eq_nil_of_length_eq_zero HL0.out]
            have hpe := Lib.hid hkey
            clear hkey HK hlk
            go_quiet (fail)
            go_wp2
            go_quiet (fail)
            go_wp2
            go_ret
            exact ⟨by rw [hpe.out]; rfl, by rw [HG.out]; exact bdrewN HB1.out _⟩
          · have hl0 : (s.t t).wr.length ≠ 0 := fun h => hm0 (HSZ.out.2 h)
            have HL0 := Lib.hid (show 0 < (s.t t).wr.length by omega)
            have hm1 : 0 < ms := by omega
            have hm2 : (0 : Int) < (ms : Int) := by omega
            have hm3 : ((ms : Int) == 0) = false := by simp; omega
            clear hl0
            have hkey : pe = 233 := by
              rw [HK.out]
              simp [LockK, numB, ownB, two, HH2.out, ← HSN.out, Hq.out, List.ne_nil_of_length_pos HL0.out]
            have hpe := Lib.hid hkey
            clear hkey HK hlk
            go_quiet (fail)
            go_wp2
            go_quiet (fail)
            go_wp2
            go_ret
            exact ⟨by rw [hpe.out]; rfl, by rw [HG.out]; exact bdrewN HB1.out _⟩
        · have bq : (x == sn / 2) = false := by simpa using q
          have Hq := Lib.hid q
          clear q
          by_cases hm0 : ms = 0
          · have hl0 := HSZ.out.1 hm0
            have HL0 := Lib.hid hl0
            subst hm0
            clear hl0
            have hkey : pe = 232 := by
              rw [HK.out]
              simp [LockK, numB, ownB, two, HH2.out, ← HSN.out, Hq.out]
            have hpe := Lib.hid hkey
            clear hkey HK hlk
            go_quiet (fail)
            go_wp2
            go_quiet (fail)
            go_wp2
            go_ret
            exact ⟨by rw [hpe.out]; rfl, by rw [HG.out]; exact bdrewN HB1.out _⟩
          · have hl0 : (s.t t).wr.length ≠ 0 := fun h => hm0 (HSZ.out.2 h)
            have HL0 := Lib.hid (show 0 < (s.t t).wr.length by omega)
            have hm1 : 0 < ms := by omega
            have hm2 : (0 : Int) < (ms : Int) := by omega
            have hm3 : ((ms : Int) == 0) = false := by simp; omega
            clear hl0
            have hkey : pe = 232 := by
              rw [HK.out]
              simp [LockK, numB, ownB, two, HH2.out, ← HSN.out, Hq.out]
            have hpe := Lib.hid hkey
            clear hkey HK hlk
            go_quiet (fail)
            go_wp2
            go_quiet (fail)
            go_wp2
            go_ret
            exact ⟨by rw [hpe.out]; rfl, by rw [HG.out]; exact bdrewN HB1.out _⟩
      · -- committed, holding
        by_cases q : x = IntKind.u64.wrap (s.num + 1)
        · have bq : (x == IntKind.u64.wrap (s.num + 1)) = true := by simpa using q
          have Hq := Lib.hid q
          clear q
          have hkey : pe = 0 := by
            rw [HK.out]
            simp [LockK, numB, ownB, two, HHW.out, Hq.out]
          have hpe := Lib.hid hkey
          clear hkey HK hlk
          go_quiet (fail)
          go_wp2
          go_quiet (fail)
          go_wp2
          go_ret
          exact ⟨by rw [hpe.out]; rfl, by rw [HG.out]; exact bdrewN HB1.out _⟩
        · have bq : (x == IntKind.u64.wrap (s.num + 1)) = false := by simpa using q
          have Hq := Lib.hid q
          clear q
          have hkey : pe = 232 := by
            rw [HK.out]
            simp [LockK, numB, ownB, two, HHW.out, Hq.out]
          have hpe := Lib.hid hkey
          clear hkey HK hlk
          go_quiet (fail)
          go_wp2
          go_quiet (fail)
          go_wp2
          go_ret
          exact ⟨by rw [hpe.out]; rfl, by rw [HG.out]; exact bdrewN HB1.out _⟩
      · -- failed, outside
        have hkey : pe = 0 := by
          rw [HK.out]
          simp [LockK, numB, ownB, two]
        have hpe := Lib.hid hkey
        clear hkey HK hlk
        go_quiet (fail)
        go_wp2
        go_ret
        exact ⟨by rw [hpe.out]; rfl, by rw [HG.out]; exact bdrewN HB1.out _⟩
      · -- failed, inside
        have hkey : pe = 0 := by
          rw [HK.out]
          simp [LockK, numB, ownB, two]
        have hpe := Lib.hid hkey
        clear hkey HK hlk
        go_quiet (fail)
        go_wp2
        go_ret
        exact ⟨by rw [hpe.out]; rfl, by rw [HG.out]; exact bdrewN HB1.out _⟩
      · -- the others
        obtain ⟨n1, n2, n4, n5, n6, n9⟩ := hno.out
        have n1' : ¬ (k : Int) = 1 := by omega
        have n2' : ¬ (k : Int) = 2 := by omega
        have n4' : ¬ (k : Int) = 4 := by omega
        have n5' : ¬ (k : Int) = 5 := by omega
        have n6' : ¬ (k : Int) = 6 := by omega
        have e1 : ((k : Int) == 1) = false := by simpa using n1'
        have e2 : ((k : Int) == 2) = false := by simpa using n2'
        have e4 : ((k : Int) == 4) = false := by simpa using n4'
        have e5 : ((k : Int) == 5) = false := by simpa using n5'
        have e6 : ((k : Int) == 6) = false := by simpa using n6'
        have e9 : ((k : Int) == 9) = false := by simp; omega
        have hkey : pe = 0 := by
          rw [HK.out]
          simp only [LockK, numB, ownB, n1', n2', n4', n5', n6', false_or, or_false, false_and, if_false, Bool.true_eq_false]
        have hpe := Lib.hid hkey
        clear hkey HK hlk n1 n2 n4 n5 n6 n9 n1' n2' n4' n5' n6' hno
        by_cases hw0 : hw = 0
        · have e0' : ((hw : Int) == 0) = true := by simp [hw0]
          clear hw0
          go_quiet (fail)
          go_wp2
          go_ret
          exact ⟨by rw [hpe.out]; rfl, by rw [HG.out]; exact bdrewN HB1.out _⟩
        · have e0' : ((hw : Int) == 0) = false := by simp; omega
          clear hw0
          go_quiet (fail)
          go_wp2
          go_ret
          exact ⟨by rw [hpe.out]; rfl, by rw [HG.out]; exact bdrewN HB1.out _⟩
  · have hd1 : decide (Fm ⟨t, k, a, x, o, er⟩) = false := decide_eq_false hF
    have hpe : pe = 201 := by rw [← HP.out]; simp [putE, hF]
    have hfo := fun w => evFormed_any ⟨t, k, a, x, o, er⟩ w HE.out
    rw [hd1] at hfo
    go_enter Try.func117, Try.ntmps117
    go_wp2_with (go_at_call 137; refine halt_ ?_)
    refine Halt_.go ?_
    refine (hfo _).mono ?_
    rintro e w1 ⟨rfl, hb1⟩
    have HB1 := Lib.hid (HB.out.trans (hb1.mono HB.out.size))
    clear hfo hb1
    go_wp2
    go_ret
    exact ⟨by rw [hpe]; rfl, HB1.out⟩
end Go.Proofs.Ytjifpjfinffamaa
end
