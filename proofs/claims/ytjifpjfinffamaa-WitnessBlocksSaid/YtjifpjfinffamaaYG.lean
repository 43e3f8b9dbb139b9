/- Walk: witness.order [61]. -/
import Derived.Test.YtjifpjfinffamaaYF
import Derived.BigRegion
import Derived.Handy
import Derived.Deep.Cut
import Derived.Laws.EntriesVeiled
namespace Go.Proofs.Ytjifpjfinffamaa
open Go.RowKit Go.Sort Go.Shelf

set_option linter.unusedSimpArgs false in
set_option maxRecDepth 100000 in
set_option maxHeartbeats 12800000 in
theorem order_any (base : Nat) (Ab : Option Addr) (cb : Nat) (bl : List Bl) (hd : Nat → Value) (Al : Option Addr) (cl : Nat) (lk : List Nat) (w : World) (hbk : BLk w base Ab cb bl hd Al cl lk) (hl : lk.length = bl.length) (hP : PartL lk bl.length) (hle : bl.length ≤ 1099511627776) :
    Calls Try.prog 61 #[.slice Ab bl.length cb, .slice Al bl.length cl] w fun e w' => ∃ Ao co, e = .returned (.slice Ao (ordS bl lk bl.length).length co) ∧ OwnI w' w.heap.size Ao co (lks (ordS bl lk bl.length)) ∧ Below w.heap.size w w' := by
  obtain ⟨n, hn⟩ : ∃ n, n = bl.length := ⟨_, rfl⟩
  rw [← hn] at hP hle ⊢
  have HBK := Lib.hid hbk
  have HL := Lib.hid hl
  have HP := Lib.hid hP
  have HN := Lib.hid hn
  clear hbk hl hP hn
  obtain ⟨wB, hwB⟩ : ∃ wB, wB = (w.alloc (.cells #[.slice Ab n cb] 27)).alloc (.cells #[.slice Al n cl] 31) := ⟨_, rfl⟩
  have hB0 : Below w.heap.size w wB := by rw [hwB]; exact ((Below.refl w.heap.size w).alloc (Nat.le_refl _) (.cells #[.slice Ab n cb] 27)).alloc (by simp) (.cells #[.slice Al n cl] 31)
  have hq1 : wB.heap[w.heap.size]? = some (.cells #[.slice Ab n cb] 27 (0, 0)) := by rw [hwB]; exact (Below.heap_alloc _ _ _ (by simp)).trans (heap_at _ _ _ rfl)
  have hq2 : wB.heap[w.heap.size + 1]? = some (.cells #[.slice Al n cl] 31 (0, 0)) := by rw [hwB]; exact heap_at _ _ _ (by simp)
  have hsB : wB.heap.size = w.heap.size + 2 := by rw [hwB]; simp
  have HB0 := Lib.hid hB0
  have HQ1 := Lib.hid hq1
  have HQ2 := Lib.hid hq2
  have HSB := Lib.hid hsB
  have HWB := Lib.hid hwB
  clear hB0 hq1 hq2 hwB hsB
  go_enter Try.func61, Try.ntmps61
  go_wp2
  rw [← HWB.out]
  clear HWB
  go_loopw [11, 5] (fun i vo wr => ∃ (q : Nat) (Ao : Option Addr) (co m : Nat), q ≤ n ∧ m ≤ q ∧ Hid (m = (fltB bl q).length) ∧ i = .int .i64 q ∧ vo = .slice Ao m co ∧ Hid (OwnI wr wB.heap.size Ao co (lks (fltB bl q))) ∧ Hid (Below wB.heap.size wB wr)) (fun i _ _ => n - (intOf i).toNat)
  case atStart => exact ⟨0, none, 0, 0, Nat.zero_le _, Nat.le_refl _, rfl, rfl, rfl, OwnI.nil _ _, Below.refl _ _⟩
  case round =>
    obtain ⟨q, Ao, co, m, hq, hmq, HM, rfl, rfl, HO, HBL⟩ := hrel
    have hszr := HBL.out.size
    by_cases hqn : q < n
    · have hqb : q < bl.length := by rw [← HN.out]; exact hqn
      have hbw : Below w.heap.size w wr := HB0.out.trans (HBL.out.mono (by have := HSB.out; omega))
      obtain ⟨g, gl, Ar, nr, cr, At, nt, ct, hA, hAl, hgw, hglw, hcq, hlq⟩ := HBK.out.at_ HL.out (Nat.le_refl _) hbw hqb
      subst hA hAl
      obtain ⟨c0, c1, c2, c3, c4, c5, c6, c7, c8⟩ := hcq
      have hov := over_any (blAt bl q) (.slice Ar nr cr) (.slice At nt ct)
      obtain ⟨b, hbq⟩ : ∃ b, b = blAt bl q := ⟨_, rfl⟩
      rw [← hbq] at c0 c1 c2 c3 c4 c5 c6 hov
      have HBB := Lib.hid hbq
      have HOV := Lib.hid hov
      have i1 : (0 : Int) ≤ (q : Int) := by omega
      have i2 : (q : Int) < (n : Int) := by omega
      clear hbq hov hqb hlq hbw
      go_wp2_with (go_at_call 92; refine halt_ ?_)
      refine Halt_.go ?_
      refine (HOV.out _).mono ?_
      rintro e' w2 ⟨rfl, hb2⟩
      have hb3 : Below wr.heap.size wr w2 := ((Below.refl _ _).alloc (Nat.le_refl _) _).trans (hb2.mono (by simp))
      have HO1 := Lib.hid (HO.out.below (Nat.le_refl _) hb3)
      have HB1 := Lib.hid (HBL.out.trans (hb3.mono hszr))
      have hsz2 := hb3.size
      clear hb2 hb3 c0 c1 c2 c3 c4 c5 c6 c7 c8 HOV HO HBL
      by_cases hob : OverB b = true
      · rw [hob]
        have hfs : fltB bl (q + 1) = fltB bl q ++ [q] := by rw [fltB_succ, ← HBB.out, if_pos hob]
        have HFS := Lib.hid hfs
        have hrow : w2.ownsRow wB.heap.size 3 1 (.slice Ao m co) m (ints (lks (fltB bl q))) := by
          have := HO1.out
          unfold OwnI at this
          rw [lks_len, ← HM.out] at this
          exact this
        have HROW := Lib.hid hrow
        clear hfs hob hrow
        go_wp2_with (at_builtin; refine halt_ ?_)
        refine Halt_.go ?_
        refine wl_append1 _ (by rfl) (.tmp 18) (.tmp 20) 31 (by rfl) wB.heap.size 3 _ 1 8 info3 Try.underlying31 rfl (by decide) (.slice Ao m co) m (ints (lks (fltB bl q))) (by rfl) (HROW.out.alloc _) w2.heap.size 1 [.int .i64 (q : Int)] (by rfl) (heap_at _ _ _ rfl) rfl (by simp [Value.oneCell']) (by omega) (by omega) (by simp; omega) _ rfl ?_
        intro g3 c3 w3 hown3 hgr3 hat3 hlt3
        have hgr := grown_trans (World.grownBy_alloc w2 _ _) hgr3
        have hl3 : (lks (fltB bl (q + 1))).length = m + 1 := by rw [HFS.out, lks_len, List.length_append, ← HM.out]; rfl
        have ho3 : OwnI w3 wB.heap.size (some ⟨g3, 0, none⟩) c3 (lks (fltB bl (q + 1))) := by
          unfold OwnI
          rw [hl3, HFS.out, show ints (lks (fltB bl q ++ [q])) = ints (lks (fltB bl q)) ++ [.int .i64 (q : Int)] from by simp [ints, lks]]
          exact hown3
        have HO3 := Lib.hid ho3
        have HM3 : Hid (m + 1 = (fltB bl (q + 1)).length) := by
          rw [lks_len] at hl3
          exact hl3.symm
        have HB3 := Lib.hid (HB1.out.grown hgr (by omega) (fun k hk => (HROW.out.lt k hk).1))
        clear hl3 ho3 hgr hown3 hgr3 hat3 hlt3 HROW HFS HO1 HB1 HM
        go_wp2
        go_roundw
        case rel => exact ⟨q + 1, _, c3, m + 1, hqn, by omega, HM3, by go_num, rfl, HO3, HB3⟩
        case measure => simp [intOf]; omega
      · have hob' : OverB b = false := by simpa using hob
        rw [hob']
        have hfs : fltB bl (q + 1) = fltB bl q := by rw [fltB_succ, ← HBB.out, if_neg hob]
        have HM3 : Hid (m = (fltB bl (q + 1)).length) := by rw [hfs]; exact HM
        have HO3 : Hid (OwnI w2 wB.heap.size Ao co (lks (fltB bl (q + 1)))) := by rw [hfs]; exact HO1
        clear hfs hob hob' HM HO1
        go_wp2
        go_roundw
        case rel => exact ⟨q + 1, Ao, co, m, hqn, by omega, HM3, by go_num, rfl, HO3, HB1⟩
        case measure => simp [intOf]; omega
    · obtain rfl : q = n := by omega
      go_wp2_with (go_at_call 94; refine halt_ ?_)
      refine Halt_.go ?_
      have hbw : Below w.heap.size w (wr.alloc (.cells #[.func (.func 93) #[] #[.pointer (some ⟨w.heap.size, 0, none⟩)]] 151)) := (HB0.out.trans (HBL.out.mono (by have := HSB.out; omega))).alloc (by have := HSB.out; omega) _
      have hs2 := HSB.out
      have q1 : (wr.alloc (.cells #[.func (.func 93) #[] #[.pointer (some ⟨w.heap.size, 0, none⟩)]] 151)).cell? ⟨w.heap.size, 0, none⟩ = some (.slice Ab q cb) := by
        rw [cell_of_row _ _ _ _ 27 (0, 0) ((Below.heap_alloc wr _ _ (by omega)).trans ((HBL.out.block _ (by omega)).trans HQ1.out))]
        rfl
      have q3 : (wr.alloc (.cells #[.func (.func 93) #[] #[.pointer (some ⟨w.heap.size, 0, none⟩)]] 151)).cell? ⟨w.heap.size + 1, 0, none⟩ = some (.slice Al q cl) := by
        rw [cell_of_row _ _ _ _ 31 (0, 0) ((Below.heap_alloc wr _ _ (by omega)).trans ((HBL.out.block _ (by omega)).trans HQ2.out))]
        rfl
      have q2 : (wr.alloc (.cells #[.func (.func 93) #[] #[.pointer (some ⟨w.heap.size, 0, none⟩)]] 151)).cell? ⟨wr.heap.size, 0, none⟩ = some (.func (.func 93) #[] #[.pointer (some ⟨w.heap.size, 0, none⟩)]) := by
        rw [cell_of_row _ _ _ _ 151 (0, 0) (heap_at _ _ _ rfl)]
        rfl
      have ho := HO.out.below (Nat.le_refl _) ((Below.refl wr.heap.size wr).alloc (Nat.le_refl _) (.cells #[.func (.func 93) #[] #[.pointer (some ⟨w.heap.size, 0, none⟩)]] 151))
      have hlt := HO.out.lt
      have hsp := sort_places HBK.out HL.out HN.out HP.out hbw hle q1 q2 q3 ho (fun e => by have := (hlt _ e).1; omega) (fun e => by have := (hlt _ e).2; omega) (fun e => by have := (hlt _ e).1; omega) (by omega) (by simp; omega) (by simp) (by simp; omega)
      rw [← HM.out] at hsp
      refine hsp.mono ?_
      rintro e' w3 ⟨rfl, ho3, hg3⟩
      have hb3 := hbw.grown hg3 (by simp; omega) (fun k hk => by have := (ho.lt k hk).1; omega)
      have HO3 := Lib.hid ho3
      have HB3 := Lib.hid hb3
      have hml : m = (ordS bl lk q).length := by
        have h1 := (ordS_perm bl lk q).length_eq
        have h2 := HM.out
        unfold fltB at h2
        rw [h1]
        exact h2
      have HML := Lib.hid hml
      clear hsp ho3 hg3 hb3 hml ho hlt q1 q2 q3 hbw hs2 HM
      go_wp2
      go_ret
      refine ⟨Ao, co, ?_, HO3.out.base (by have := HSB.out; omega), HB3.out⟩
      rw [← HML.out]
      rfl
end Go.Proofs.Ytjifpjfinffamaa
