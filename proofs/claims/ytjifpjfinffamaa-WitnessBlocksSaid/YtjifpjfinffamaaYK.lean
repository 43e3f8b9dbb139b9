/- Walk: WitnessBlocks [3]. -/
import Derived.Test.YtjifpjfinffamaaYJ
import Derived.Test.YtjifpjfinffamaaY3
import Derived.Test.YtjifpjfinffamaaX2
import Derived.Deep.Cut
namespace Go.Proofs.Ytjifpjfinffamaa
open Go.RowKit

def BlkC (l : List Ev) (bl : List Bl) (n : Nat) : Prop := ∀ (A : Option Addr) (cap : Nat) (W : World), EvR W W.heap.size A l →
  Calls Try.prog 15 #[.slice A l.length cap] W fun e w' => (∃ Ab cb hd, e = .returned (.tuple #[.slice Ab n cb, .int .i64 0]) ∧ HB w' W.heap.size Ab n cb bl hd) ∧ Below W.heap.size W w'
def OrdC (l : List Ev) (os : List Int) (m : Nat) : Prop := ∀ (A : Option Addr) (cap : Nat) (W : World), EvR W W.heap.size A l →
  Calls Try.prog 16 #[.slice A l.length cap] W fun e w' => (∃ Ao co, e = .returned (.tuple #[.slice Ao m co, .int .i64 0]) ∧ OwnI w' W.heap.size Ao co os) ∧ Below W.heap.size W w'
def AhC (l : List Ev) (a b : Int) (r : Bool) : Prop := ∀ (A : Option Addr) (cap : Nat) (W : World), EvR W W.heap.size A l →
  Calls Try.prog 17 #[.slice A l.length cap, .int .i64 a, .int .i64 b] W fun e w' => e = .returned (.bool r) ∧ Below W.heap.size W w'
def RbC (l : List Ev) (bl : List Bl) (n : Nat) : Prop := ∀ (A : Option Addr) (cap : Nat) (W : World), EvR W W.heap.size A l →
  Calls Try.prog 19 #[.slice A l.length cap] W fun e w' => (∃ Ab cb hd Al cl, e = .returned (.tuple #[.slice Ab n cb, .slice Al n cl]) ∧ HB w' W.heap.size Ab n cb bl hd) ∧ Below W.heap.size W w'
def RoC (l : List Ev) (os : List Int) (m : Nat) : Prop := ∀ (A : Option Addr) (cap : Nat) (W : World), EvR W W.heap.size A l →
  Calls Try.prog 20 #[.slice A l.length cap] W fun e w' => (∃ Ao co, e = .returned (.slice Ao m co) ∧ OwnI w' W.heap.size Ao co os) ∧ Below W.heap.size W w'
section
variable {l : List Ev}
theorem blkC (hl : l.length ≤ 1099511627776) (hk : chk ss0 l 0 = (-1, 0)) : BlkC l (wBl l) (wBl l).length := by
  intro A cap W hc
  refine Calls.mono (blocks_any A cap l W hl hc) ?_
  rintro e w' ⟨h1 | h1, h2⟩
  · exact absurd (by rw [hk]) h1.1
  · exact ⟨h1.2, h2⟩
theorem ordC (hl : l.length ≤ 1099511627776) (hk : chk ss0 l 0 = (-1, 0)) : OrdC l (lks (ordS (wBl l) (wLk l) (wBl l).length)) (ordS (wBl l) (wLk l) (wBl l).length).length := by
  intro A cap W hc
  refine Calls.mono (wOrder_any A cap l W hl hc) ?_
  rintro e w' ⟨h1 | h1, h2⟩
  · exact absurd (by rw [hk]) h1.1
  · exact ⟨h1.2, h2⟩
theorem ahC (hl : l.length ≤ 1099511627776) (hk : chk ss0 l 0 = (-1, 0)) (a b : Int) : AhC l a b (ahB (wBl l) a b) := by
  intro A cap W hc
  refine Calls.mono (ahead_any A cap l a b W hl hc) ?_
  rintro e w' ⟨r, rfl, h1 | h1, h2⟩
  · exact absurd (by rw [hk]) h1.1
  · exact ⟨by rw [h1.2], h2⟩
theorem rbC (hl : l.length ≤ 1099511627776) (hk : chk ss0 l 0 = (-1, 0)) : RbC l (wBl l) (wBl l).length := by
  intro A cap W hc
  refine Calls.mono (refBlocks_any A cap l W hl hc) ?_
  rintro e w' ⟨bl, lk, Ab, cb, hd, Al, cl, rfl, h1, h2, h3, _, h4⟩
  obtain ⟨rfl, rfl⟩ := doc_same hk h2 h3
  exact ⟨⟨Ab, cb, hd, Al, cl, by rw [h3], h1.hb⟩, h4⟩
theorem roC (hl : l.length ≤ 1099511627776) (hk : chk ss0 l 0 = (-1, 0)) : RoC l (lks (ordS (wBl l) (wLk l) (wBl l).length)) (ordS (wBl l) (wLk l) (wBl l).length).length := by
  intro A cap W hc
  refine Calls.mono (refOrder_any A cap l W hl hc) ?_
  rintro e w' ⟨bl, lk, Ao, co, rfl, h1, h2, h3, _, h4⟩
  obtain ⟨rfl, rfl⟩ := doc_same hk h2 h3
  exact ⟨⟨Ao, co, by rw [lks_len], h1⟩, h4⟩
theorem blkBad (hl : l.length ≤ 1099511627776) (hk : (chk ss0 l 0).2 ≠ 0) (A : Option Addr) (cap : Nat) (W : World) (hc : EvR W W.heap.size A l) :
    Calls Try.prog 15 #[.slice A l.length cap] W fun e w' => e = .returned (.tuple #[.slice none 0 0, .int .i64 (chk ss0 l 0).2]) ∧ Below W.heap.size W w' := by
  refine Calls.mono (blocks_any A cap l W hl hc) ?_
  rintro e w' ⟨h1 | h1, h2⟩
  · exact ⟨h1.2, h2⟩
  · exact absurd (by rw [h1.1]) hk
theorem ordBad (hl : l.length ≤ 1099511627776) (hk : (chk ss0 l 0).2 ≠ 0) (A : Option Addr) (cap : Nat) (W : World) (hc : EvR W W.heap.size A l) :
    Calls Try.prog 16 #[.slice A l.length cap] W fun e w' => e = .returned (.tuple #[.slice none 0 0, .int .i64 (chk ss0 l 0).2]) ∧ Below W.heap.size W w' := by
  refine Calls.mono (wOrder_any A cap l W hl hc) ?_
  rintro e w' ⟨h1 | h1, h2⟩
  · exact ⟨h1.2, h2⟩
  · exact absurd (by rw [h1.1]) hk
theorem ahBad (hl : l.length ≤ 1099511627776) (hk : (chk ss0 l 0).2 ≠ 0) (a b : Int) (A : Option Addr) (cap : Nat) (W : World) (hc : EvR W W.heap.size A l) :
    Calls Try.prog 17 #[.slice A l.length cap, .int .i64 a, .int .i64 b] W fun e w' => e = .returned (.bool false) ∧ Below W.heap.size W w' := by
  refine Calls.mono (ahead_any A cap l a b W hl hc) ?_
  rintro e w' ⟨r, rfl, h1 | h1, h2⟩
  · exact ⟨by rw [h1.2], h2⟩
  · exact absurd (by rw [h1.1]) hk
end

set_option maxRecDepth 100000 in
set_option maxHeartbeats 3200000 in
theorem law15_long (A : Option Addr) (cap : Nat) (l : List Ev) (a b : Int) (w : World) (hlg : 600 < l.length) :
    Calls Try.prog 3 #[.slice A l.length cap, .int .i64 a, .int .i64 b] w fun e w' => e = .returned (.bool true) ∧ Below w.heap.size w w' := by
  have d1 : decide ((600 : Int) < (l.length : Int)) = true := by simp; omega
  have hla := fun W => long_any A cap l.length W
  rw [d1] at hla
  have HLA := Lib.hid hla
  clear hla hlg d1
  go_enter Try.func3, Try.ntmps3
  go_wp2_with (go_at_call 11; refine (HLA.out _).mono ?_; rintro e w' ⟨rfl, hww⟩; obtain rfl := hww.symm)
  go_wp2_with (go_at_call 12; refine halt_ ?_)
  refine Halt_.go ?_
  refine (known15_any _).mono ?_
  rintro e w1 ⟨rfl, hb⟩
  have HB := Lib.hid hb
  clear hb
  go_wp2
  go_ret
  exact ⟨rfl, HB.out⟩

set_option linter.unusedSimpArgs false in
set_option maxRecDepth 100000 in
set_option maxHeartbeats 12800000 in
theorem law15_bad (A : Option Addr) (cap : Nat) (l : List Ev) (a b : Int) (w : World) (hlg : ¬ 600 < l.length) (hk : (chk ss0 l 0).2 ≠ 0) (hc : EvR w w.heap.size A l) :
    Calls Try.prog 3 #[.slice A l.length cap, .int .i64 a, .int .i64 b] w fun e w' => e = .returned (.bool true) ∧ Below w.heap.size w w' := by
  have d1 : decide ((600 : Int) < (l.length : Int)) = false := by simp; omega
  have hla := fun W => long_any A cap l.length W
  rw [d1] at hla
  have HLA := Lib.hid hla
  have hll : l.length ≤ 1099511627776 := by omega
  have HBB := Lib.hid (fun A cap W hc => blkBad hll hk A cap W hc)
  have HOB := Lib.hid (fun A cap W hc => ordBad hll hk A cap W hc)
  have HAB := Lib.hid (fun A cap W hc => ahBad hll hk a b A cap W hc)
  have HWR := Lib.hid (fun W hc => wrong15_any A cap l W hll hc)
  have HC := Lib.hid hc
  clear hla hlg d1 hc
  obtain ⟨y, hy⟩ : ∃ y, y = (chk ss0 l 0).2 := ⟨_, rfl⟩
  rw [← hy] at HBB HOB HWR hk
  have e1 : (y != 0) = true := by simpa using hk
  have e2 : (y != y) = false := by simp
  clear hy hk
  go_enter Try.func3, Try.ntmps3
  go_wp2_with (go_at_call 11; refine (HLA.out _).mono ?_; rintro e w' ⟨rfl, hww⟩; obtain rfl := hww.symm)
  go_wp2_with (go_at_call 13; refine halt_ ?_)
  refine Halt_.go ?_
  refine (lent_any A cap l w hll HC.out).mono ?_
  rintro e w1 ⟨g, c1, rfl, hL, hb⟩
  have HL := Lib.hid hL
  have HC1 := Lib.hid ((HC.out.below hb).more hb.size)
  have HB := Lib.hid hb
  clear hL hb HC
  go_wp2_with (go_at_call 14; refine halt_ ?_)
  refine Halt_.go ?_
  refine (HWR.out w1 HC1.out).mono ?_
  rintro e w2 ⟨rfl, hb⟩
  have HL2 := Lib.hid (HL.out.below HL.out.2.1 hb)
  have HC2 := Lib.hid ((HC1.out.below hb).more hb.size)
  have HB2 := Lib.hid (HB.out.trans (hb.mono HB.out.size))
  clear hb HL HC1 HB

  go_wp2_with (go_at_call 15; refine halt_ ?_)
  refine Halt_.go ?_
  refine (HBB.out (some ⟨g, 0, none⟩) c1 w2 HL2.out.reads).mono ?_
  rintro e w3 ⟨rfl, hb⟩
  have HL3 := Lib.hid (HL2.out.below HL2.out.2.1 hb)
  have HC3 := Lib.hid ((HC2.out.below hb).more hb.size)
  have HB3 := Lib.hid (HB2.out.trans (hb.mono HB2.out.size))
  clear hb HL2 HC2 HB2
  go_wp2_with (go_at_call 15; refine halt_ ?_)
  refine Halt_.go ?_
  refine (HBB.out (some ⟨g, 0, none⟩) c1 w3 HL3.out.reads).mono ?_
  rintro e w4 ⟨rfl, hb⟩
  have HL4 := Lib.hid (HL3.out.below HL3.out.2.1 hb)
  have HC4 := Lib.hid ((HC3.out.below hb).more hb.size)
  have HB4 := Lib.hid (HB3.out.trans (hb.mono HB3.out.size))
  clear hb HL3 HC3 HB3
  go_wp2_with (go_at_call 16; refine halt_ ?_)
  refine Halt_.go ?_
  refine (HOB.out (some ⟨g, 0, none⟩) c1 w4 HL4.out.reads).mono ?_
  rintro e w5 ⟨rfl, hb⟩
  have HL5 := Lib.hid (HL4.out.below HL4.out.2.1 hb)
  have HC5 := Lib.hid ((HC4.out.below hb).more hb.size)
  have HB5 := Lib.hid (HB4.out.trans (hb.mono HB4.out.size))
  clear hb HL4 HC4 HB4
  go_wp2_with (go_at_call 16; refine halt_ ?_)
  refine Halt_.go ?_
  refine (HOB.out (some ⟨g, 0, none⟩) c1 w5 HL5.out.reads).mono ?_
  rintro e w6 ⟨rfl, hb⟩
  have HL6 := Lib.hid (HL5.out.below HL5.out.2.1 hb)
  have HC6 := Lib.hid ((HC5.out.below hb).more hb.size)
  have HB6 := Lib.hid (HB5.out.trans (hb.mono HB5.out.size))
  clear hb HL5 HC5 HB5
  go_wp2_with (go_at_call 17; refine halt_ ?_)
  refine Halt_.go ?_
  refine (HAB.out (some ⟨g, 0, none⟩) c1 w6 HL6.out.reads).mono ?_
  rintro e w7 ⟨rfl, hb⟩
  have HL7 := Lib.hid (HL6.out.below HL6.out.2.1 hb)
  have HC7 := Lib.hid ((HC6.out.below hb).more hb.size)
  have HB7 := Lib.hid (HB6.out.trans (hb.mono HB6.out.size))
  clear hb HL6 HC6 HB6
  go_wp2_with (go_at_call 18; refine halt_ ?_)
  refine Halt_.go ?_
  refine (kept15_any A g c1 cap _ l w7 hll HL7.out HC7.out).mono ?_
  rintro e w8 ⟨rfl, m, hw8⟩
  have HB8 : Hid (Below w.heap.size w w8) := by rw [hw8]; exact bdrewN HB7.out m
  clear hw8 HL7 HC7 HB7
  go_wp2_with (go_at_call 12; refine halt_ ?_)
  refine Halt_.go ?_
  refine (known15_any _).mono ?_
  rintro e w9 ⟨rfl, hb⟩
  have HB9 := Lib.hid (HB8.out.trans (hb.mono HB8.out.size))
  clear hb HB8
  go_wp2
  go_ret
  exact ⟨rfl, HB9.out⟩
end Go.Proofs.Ytjifpjfinffamaa
