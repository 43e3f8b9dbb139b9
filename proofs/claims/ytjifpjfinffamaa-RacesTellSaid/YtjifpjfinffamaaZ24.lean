/- Texts R22, laid together. -/
import Derived.Test.YtjifpjfinffamaaZ13
import Derived.Test.YtjifpjfinffamaaZ21
import Derived.Test.YtjifpjfinffamaaZ23
section
namespace Go.Proofs.Ytjifpjfinffamaa
open Go.RowKit
structure WO (w0 wr : World) (lo hi g m : Nat) : Prop where
  kp : Kp w0 wr lo hi
  cell : ∀ j, m ≤ j → wr.cell? ⟨g, j, none⟩ = w0.cell? ⟨g, j, none⟩
  fz : ∀ j, wr.frozen? ⟨g, j, none⟩ = w0.frozen? ⟨g, j, none⟩
theorem WO.start (w0 : World) (lo hi g : Nat) : WO w0 w0 lo hi g 0 := ⟨Kp.refl _ _ _, fun _ _ => rfl, fun _ => rfl⟩
theorem WO.set {w0 wr : World} {lo hi g m m' : Nat} (h : WO w0 wr lo hi g m) (hlo : lo ≤ g) (hhi : g < hi) {j : Nat} (hj : j < m') (hm : m ≤ m') (v : Value) : WO w0 (wr.setCell ⟨g, j, none⟩ v) lo hi g m' := by
  refine ⟨h.kp.set _ _ hlo hhi, fun i hi' => ?_, fun i => ?_⟩
  · exact (World.cell?_setCell_other _ _ _ _ (by intro e; injection e with _ e; omega)).trans (h.cell i (by omega))
  · rw [World.frozen?_setCell]
    exact h.fz i
theorem Kp.acc {a b : World} {lo hi base c : Nat} {A : Option Addr} {xs : List Acc} (h : Kp a b lo hi) (ho : OwnA a base A c xs) (hb : hi ≤ base) : OwnA b base A c xs := own_keep ho fun g hg => h.block g (.inr (by have := (World.ownsRow.lt ho g hg).1; omega))
theorem Kp.rac {a b : World} {lo hi base c : Nat} {A : Option Addr} {xs : List (Nat × Nat)} (h : Kp a b lo hi) (ho : OwnR2 a base A c xs) (hb : hi ≤ base) : OwnR2 b base A c xs := own_keep ho fun g hg => h.block g (.inr (by have := (World.ownsRow.lt ho g hg).1; omega))
theorem own_below {w w2 : World} {base e s n : Nat} {v : Value} {xs : List Value} (h : w.ownsRow base e s v n xs) (hb : Below w.heap.size w w2) : w2.ownsRow base e s v n xs := own_keep h fun g hg => hb.block g (World.ownsRow.lt h g hg).2
section
variable {l : List Ev}
theorem accOK (hl : l.length ≤ 1000) (hk : chk ss0 l 0 = (-1, 0)) (A : Option Addr) (cap : Nat) (W : World) (hc : EvR W W.heap.size A l) :
    Calls Try.prog 45 #[.slice A l.length cap] W fun e w' => ∃ Aa ca, e = .returned (.tuple #[.slice Aa (accL l (wBl l) l.length).length ca, .int .i64 0]) ∧ OwnA w' W.heap.size Aa ca (accL l (wBl l) l.length) ∧ Below W.heap.size W w' := by
  refine Calls.mono (racAcc_any A cap l W hl hc) ?_
  rintro e w' ⟨h1 | h1, h2⟩
  · exact absurd (by rw [hk]) h1.1
  · obtain ⟨_, Aa, ca, h3, h4⟩ := h1
    exact ⟨Aa, ca, h3, h4, h2⟩
theorem racOK (hl : l.length ≤ 1000) (hk : chk ss0 l 0 = (-1, 0)) (A : Option Addr) (cap : Nat) (W : World) (hc : EvR W W.heap.size A l) :
    Calls Try.prog 46 #[.slice A l.length cap] W fun e w' => ∃ Aa ca, e = .returned (.tuple #[.slice Aa (raL l (wBl l) (wLk l)).length ca, .int .i64 0]) ∧ OwnR2 w' W.heap.size Aa ca (raL l (wBl l) (wLk l)) ∧ Below W.heap.size W w' := by
  refine Calls.mono (racRac_any A cap l W hl hc) ?_
  rintro e w' ⟨h1 | h1, h2⟩
  · exact absurd (by rw [hk]) h1.1
  · obtain ⟨_, Aa, ca, h3, h4⟩ := h1
    exact ⟨Aa, ca, h3, h4, h2⟩
theorem quiOK (hl : l.length ≤ 1000) (hk : chk ss0 l 0 = (-1, 0)) (A : Option Addr) (cap : Nat) (W : World) (hc : EvR W W.heap.size A l) :
    Calls Try.prog 47 #[.slice A l.length cap] W fun e w' => e = .returned (.bool (decide ((raL l (wBl l) (wLk l)).length = 0))) ∧ Below W.heap.size W w' := by
  refine Calls.mono (quiet_any A cap l W hl hc) ?_
  rintro e w' ⟨r, rfl, h1 | h1, h2⟩
  · exact absurd (by rw [hk]) h1.1
  · exact ⟨by rw [h1.2], h2⟩
theorem accBad (hl : l.length ≤ 1000) (hk : (chk ss0 l 0).2 ≠ 0) (A : Option Addr) (cap : Nat) (W : World) (hc : EvR W W.heap.size A l) :
    Calls Try.prog 45 #[.slice A l.length cap] W fun e w' => e = .returned (.tuple #[.slice none 0 0, .int .i64 (chk ss0 l 0).2]) ∧ Below W.heap.size W w' := by
  refine Calls.mono (racAcc_any A cap l W hl hc) ?_
  rintro e w' ⟨h1 | h1, h2⟩
  · exact ⟨h1.2, h2⟩
  · exact absurd (by rw [h1.1]) hk
theorem racBad (hl : l.length ≤ 1000) (hk : (chk ss0 l 0).2 ≠ 0) (A : Option Addr) (cap : Nat) (W : World) (hc : EvR W W.heap.size A l) :
    Calls Try.prog 46 #[.slice A l.length cap] W fun e w' => e = .returned (.tuple #[.slice none 0 0, .int .i64 (chk ss0 l 0).2]) ∧ Below W.heap.size W w' := by
  refine Calls.mono (racRac_any A cap l W hl hc) ?_
  rintro e w' ⟨h1 | h1, h2⟩
  · exact ⟨h1.2, h2⟩
  · exact absurd (by rw [h1.1]) hk
theorem quiBad (hl : l.length ≤ 1000) (hk : (chk ss0 l 0).2 ≠ 0) (A : Option Addr) (cap : Nat) (W : World) (hc : EvR W W.heap.size A l) :
    Calls Try.prog 47 #[.slice A l.length cap] W fun e w' => e = .returned (.bool false) ∧ Below W.heap.size W w' := by
  refine Calls.mono (quiet_any A cap l W hl hc) ?_
  rintro e w' ⟨r, rfl, h1 | h1, h2⟩
  · exact ⟨by rw [h1.2], h2⟩
  · exact absurd (by rw [h1.1]) hk
end
set_option maxRecDepth 100000 in
set_option maxHeartbeats 3200000 in
theorem law18_long (A : Option Addr) (cap : Nat) (l : List Ev) (w : World) (hlg : 400 < l.length) :
    Calls Try.prog 9 #[.slice A l.length cap] w fun e w' => e = .returned (.bool true) ∧ Below w.heap.size w w' := by
  have d1 : (400 : Int) < (l.length : Int) := by omega
  clear hlg
  go_enter Try.func9, Try.ntmps9
  go_wp2_with (go_at_call 43; refine halt_ ?_)
  refine Halt_.go ?_
  refine (known18_any _).mono ?_
  rintro e w1 ⟨rfl, hb⟩
  have HB := Lib.hid hb
  clear hb
  go_wp2
  go_ret
  exact ⟨rfl, HB.out⟩
set_option linter.unusedSimpArgs false in
set_option maxRecDepth 100000 in
set_option maxHeartbeats 12800000 in
theorem law18_bad (A : Option Addr) (cap : Nat) (l : List Ev) (w : World) (hlg : ¬ 400 < l.length) (hk : (chk ss0 l 0).2 ≠ 0) (hc : EvR w w.heap.size A l) :
    Calls Try.prog 9 #[.slice A l.length cap] w fun e w' => e = .returned (.bool true) ∧ Below w.heap.size w w' := by
  have d1 : ¬ (400 : Int) < (l.length : Int) := by omega
  have hll : l.length ≤ 1099511627776 := by omega
  have hl1 : l.length ≤ 1000 := by omega
  have HA := Lib.hid (fun A cap W hc => accBad hl1 hk A cap W hc)
  have HR := Lib.hid (fun A cap W hc => racBad hl1 hk A cap W hc)
  have HQ := Lib.hid (fun A cap W hc => quiBad hl1 hk A cap W hc)
  have HWR := Lib.hid (fun W hc => wrong15_any A cap l W hll hc)
  have HC := Lib.hid hc
  clear hlg hc
  obtain ⟨y, hy⟩ : ∃ y, y = (chk ss0 l 0).2 := ⟨_, rfl⟩
  rw [← hy] at HA HR HWR hk
  have e1 : (y != 0) = true := by simpa using hk
  have e2 : (y != y) = false := by simp
  clear hy hk
  go_enter Try.func9, Try.ntmps9
  go_wp2_with (go_at_call 44; refine halt_ ?_)
  refine Halt_.go ?_
  refine (lent18_any A cap l w hll HC.out).mono ?_
  rintro e w1 ⟨g, c1, rfl, hL, hb⟩
  have HL := Lib.hid hL
  have HC1 := Lib.hid ((HC.out.below hb).more hb.size)
  have HB := Lib.hid hb
  clear hL hb HC
  go_wp2_with (go_at_call 14; refine halt_ ?_)
  refine Halt_.go ?_
  refine (HWR.out w1 HC1.out).mono ?_
  rintro e w2 ⟨rfl, hb⟩
  have HL2 := Lib.hid (HL.out.below HL.out.2.1 hb)
  have HC2 := Lib.hid ((HC1.out.below hb).more hb.size)
  have HB2 := Lib.hid (HB.out.trans (hb.mono HB.out.size))
  clear hb HL HC1 HB
  go_wp2_with (go_at_call 45; refine halt_ ?_)
  refine Halt_.go ?_
  refine (HA.out _ _ w2 HL2.out.reads).mono ?_
  rintro e w3 ⟨rfl, hb⟩
  have HL3 := Lib.hid (HL2.out.below HL2.out.2.1 hb)
  have HC3 := Lib.hid ((HC2.out.below hb).more hb.size)
  have HB3 := Lib.hid (HB2.out.trans (hb.mono HB2.out.size))
  clear hb HL2 HC2 HB2
  go_wp2_with (go_at_call 46; refine halt_ ?_)
  refine Halt_.go ?_
  refine (HR.out _ _ w3 HL3.out.reads).mono ?_
  rintro e w4 ⟨rfl, hb⟩
  have HL4 := Lib.hid (HL3.out.below HL3.out.2.1 hb)
  have HC4 := Lib.hid ((HC3.out.below hb).more hb.size)
  have HB4 := Lib.hid (HB3.out.trans (hb.mono HB3.out.size))
  clear hb HL3 HC3 HB3
  go_wp2_with (go_at_call 45; refine halt_ ?_)
  refine Halt_.go ?_
  refine (HA.out _ _ w4 HL4.out.reads).mono ?_
  rintro e w5 ⟨rfl, hb⟩
  have HL5 := Lib.hid (HL4.out.below HL4.out.2.1 hb)
  have HC5 := Lib.hid ((HC4.out.below hb).more hb.size)
  have HB5 := Lib.hid (HB4.out.trans (hb.mono HB4.out.size))
  clear hb HL4 HC4 HB4
  go_wp2_with (go_at_call 46; refine halt_ ?_)
  refine Halt_.go ?_
  refine (HR.out _ _ w5 HL5.out.reads).mono ?_
  rintro e w6 ⟨rfl, hb⟩
  have HL6 := Lib.hid (HL5.out.below HL5.out.2.1 hb)
  have HC6 := Lib.hid ((HC5.out.below hb).more hb.size)
  have HB6 := Lib.hid (HB5.out.trans (hb.mono HB5.out.size))
  clear hb HL5 HC5 HB5
  go_wp2_with (go_at_call 47; refine halt_ ?_)
  refine Halt_.go ?_
  refine (HQ.out _ _ w6 HL6.out.reads).mono ?_
  rintro e w7 ⟨rfl, hb⟩
  have HL7 := Lib.hid (HL6.out.below HL6.out.2.1 hb)
  have HC7 := Lib.hid ((HC6.out.below hb).more hb.size)
  have HB7 := Lib.hid (HB6.out.trans (hb.mono HB6.out.size))
  clear hb HL6 HC6 HB6
  go_wp2_with (go_at_call 48; refine halt_ ?_)
  refine Halt_.go ?_
  refine (kept18_any A g c1 cap _ l w7 hll HL7.out HC7.out).mono ?_
  rintro e w8 ⟨rfl, m, rfl⟩
  have HB8 := Lib.hid (bdrewN HB7.out m)
  clear HL7 HC7 HB7
  generalize w7.drewN m = w8 at *
  go_wp2_with (go_at_call 43; refine halt_ ?_)
  refine Halt_.go ?_
  refine (known18_any _).mono ?_
  rintro e w9 ⟨rfl, hb⟩
  have HB9 := Lib.hid (HB8.out.trans (hb.mono HB8.out.size))
  clear hb HB8
  go_wp2
  go_ret
  exact ⟨rfl, HB9.out⟩
end Go.Proofs.Ytjifpjfinffamaa
end
