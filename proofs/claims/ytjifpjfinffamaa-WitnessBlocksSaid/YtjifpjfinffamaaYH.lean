/- Walks: witness.Blocks [15], Order [16], Ahead [17]. -/
import Derived.Test.YtjifpjfinffamaaYG
import Derived.Test.YtjifpjfinffamaaYC
import Derived.Test.YtjifpjfinffamaaVF
import Derived.BigQuiet
namespace Go.Proofs.Ytjifpjfinffamaa
open Go.RowKit

theorem chk_cases : ∀ (r : List Ev) (i : Nat) (s : SS), chk s r i = (-1, 0) ∨ (chk s r i).2 ≠ 0
  | [], _, _ => .inl rfl
  | e :: r, i, s => by
    unfold chk
    split
    · exact chk_cases r (i + 1) _
    · rename_i h
      exact .inr h
theorem chk_fm : ∀ (r : List Ev) (i : Nat) (s : SS), chk s r i = (-1, 0) → ∀ e ∈ r, 0 ≤ e.th ∧ e.th < 8
  | [], _, _, _, e, he => by cases he
  | a :: r, i, s, h, e, he => by
    unfold chk at h
    split at h
    · rename_i hp
      rcases List.mem_cons.1 he with rfl | he
      · exact (putE_ok hp).1.1
      · exact chk_fm r (i + 1) _ h e he
    · injection h with h1 h2
      omega
def wBl (l : List Ev) : List Bl := (cutF cs0 l 0).bl.map finW
def wLk (l : List Ev) : List Nat := (cutF cs0 l 0).lk
theorem wBl_len (l : List Ev) : (wBl l).length = (cutF cs0 l 0).bl.length := by simp [wBl]
theorem wLk_len (l : List Ev) : (wLk l).length = (wBl l).length := by rw [wBl_len]; exact (cutF_own l 0 cs0 COwn.start).len
theorem wBl_le (l : List Ev) : (wBl l).length ≤ l.length := by
  rw [wBl_len]
  have := (cutF_own l 0 cs0 COwn.start).le
  omega
theorem wLk_part (l : List Ev) : PartL (wLk l) (wBl l).length := by
  rw [← wLk_len]
  exact PartL.of (cutF_nodup l 0 cs0 List.nodup_nil (fun x hx => by cases hx))

theorem cut_at (A : Option Addr) (cap : Nat) (l : List Ev) (w : World) (hl : l.length ≤ 1099511627776) (hk : chk ss0 l 0 = (-1, 0)) (hc : EvR w w.heap.size A l) :
    Calls Try.prog 60 #[.slice A l.length cap] w fun e w' => ∃ Ab cb hd Al cl, e = .returned (.tuple #[.slice Ab (wBl l).length cb, .slice Al (wBl l).length cl]) ∧ BLk w' w.heap.size Ab cb (wBl l) hd Al cl (wLk l) ∧ Below w.heap.size w w' := by
  refine (cut_any A cap l w hl (chk_fm l 0 ss0 hk) hc).mono ?_
  rintro e w' ⟨Ab, cb, hd, Al, cl, rfl, h1, h2⟩
  exact ⟨Ab, cb, hd, Al, cl, by rw [wBl_len], h1, h2⟩

set_option maxRecDepth 100000 in
set_option maxHeartbeats 3200000 in
theorem blocks_any (A : Option Addr) (cap : Nat) (l : List Ev) (w : World) (hl : l.length ≤ 1099511627776) (hc : EvR w w.heap.size A l) :
    Calls Try.prog 15 #[.slice A l.length cap] w fun e w' => ((chk ss0 l 0).2 ≠ 0 ∧ e = .returned (.tuple #[.slice none 0 0, .int .i64 (chk ss0 l 0).2]) ∨
      chk ss0 l 0 = (-1, 0) ∧ ∃ Ab cb hd, e = .returned (.tuple #[.slice Ab (wBl l).length cb, .int .i64 0]) ∧ HB w' w.heap.size Ab (wBl l).length cb (wBl l) hd) ∧ Below w.heap.size w w' := by
  have HE := Lib.hid (evCheck_any A cap l w hl hc)
  have HCUT := Lib.hid (fun W (hk : chk ss0 l 0 = (-1, 0)) (h : EvR W W.heap.size A l) => cut_at A cap l W hl hk h)
  have HC := Lib.hid hc
  have HK := Lib.hid (chk_cases l 0 ss0)
  clear hc
  generalize chk ss0 l 0 = R at *
  obtain ⟨x, y⟩ := R
  have hq : y = 0 ∧ x = -1 ∨ y ≠ 0 := by
    rcases HK.out with h | h
    · injection h with h1 h2
      exact .inl ⟨h2, h1⟩
    · exact .inr h
  rcases hq with ⟨rfl, rfl⟩ | hy
  · go_enter Try.func15, Try.ntmps15
    go_wp2_with (go_at_call 59; refine halt_ ?_)
    refine Halt_.go ?_
    refine HE.out.mono ?_
    rintro e w1 ⟨rfl, hb1⟩
    have HB1 := Lib.hid hb1
    have hsz := hb1.size
    unfold oddV
    have hb2 := hb1.alloc hsz (.cells #[.int .i64 (-1), .int .i64 0] 99)
    have hcut := HCUT.out (w1.alloc (.cells #[.int .i64 (-1), .int .i64 0] 99)) trivial ((HC.out.below hb2).more (by simp; omega))
    have HB2 := Lib.hid hb2
    have HCU := Lib.hid hcut
    clear hb1 hb2 hcut HCUT HE
    go_wp2_with (go_at_call 60; refine halt_ ?_)
    refine Halt_.go ?_
    refine HCU.out.mono ?_
    rintro e w2 ⟨Ab, cb, hd, Al, cl, rfl, h1, h2⟩
    have HF := Lib.hid (h1.base' (show w.heap.size ≤ _ by simp; omega))
    have HB3 := Lib.hid (HB2.out.trans (h2.mono (by simp; omega)))
    clear h1 h2
    go_wp2
    go_ret2
    exact ⟨.inr ⟨trivial, Ab, cb, hd, rfl, HF.out.hb⟩, HB3.out⟩
  · have e1 : (y != 0) = true := by simpa using hy
    have HY := Lib.hid hy
    clear hy
    go_enter Try.func15, Try.ntmps15
    go_wp2_with (go_at_call 59; refine halt_ ?_)
    refine Halt_.go ?_
    refine HE.out.mono ?_
    rintro e w1 ⟨rfl, hb1⟩
    have HB1 := Lib.hid hb1
    have hsz := hb1.size
    unfold oddV
    clear hb1 HCUT HE
    go_wp2
    go_quiet (fail)
    go_wp2
    go_ret2
    refine ⟨.inl ⟨HY.out, rfl⟩, ?_⟩
    have hB := HB1.out
    refine bdrewN ?_ _
    exact hB.alloc hsz _

set_option maxRecDepth 100000 in
set_option maxHeartbeats 3200000 in
theorem wOrder_any (A : Option Addr) (cap : Nat) (l : List Ev) (w : World) (hl : l.length ≤ 1099511627776) (hc : EvR w w.heap.size A l) :
    Calls Try.prog 16 #[.slice A l.length cap] w fun e w' => ((chk ss0 l 0).2 ≠ 0 ∧ e = .returned (.tuple #[.slice none 0 0, .int .i64 (chk ss0 l 0).2]) ∨
      chk ss0 l 0 = (-1, 0) ∧ ∃ Ao co, e = .returned (.tuple #[.slice Ao (ordS (wBl l) (wLk l) (wBl l).length).length co, .int .i64 0]) ∧ OwnI w' w.heap.size Ao co (lks (ordS (wBl l) (wLk l) (wBl l).length))) ∧ Below w.heap.size w w' := by
  have HE := Lib.hid (evCheck_any A cap l w hl hc)
  have HCUT := Lib.hid (fun W (hk : chk ss0 l 0 = (-1, 0)) (h : EvR W W.heap.size A l) => cut_at A cap l W hl hk h)
  have HC := Lib.hid hc
  have HK := Lib.hid (chk_cases l 0 ss0)
  clear hc
  generalize chk ss0 l 0 = R at *
  obtain ⟨x, y⟩ := R
  have hq : y = 0 ∧ x = -1 ∨ y ≠ 0 := by
    rcases HK.out with h | h
    · injection h with h1 h2
      exact .inl ⟨h2, h1⟩
    · exact .inr h
  rcases hq with ⟨rfl, rfl⟩ | hy
  · go_enter Try.func16, Try.ntmps16
    go_wp2_with (go_at_call 59; refine halt_ ?_)
    refine Halt_.go ?_
    refine HE.out.mono ?_
    rintro e w1 ⟨rfl, hb1⟩
    have HB1 := Lib.hid hb1
    have hsz := hb1.size
    unfold oddV
    have hb2 := hb1.alloc hsz (.cells #[.int .i64 (-1), .int .i64 0] 99)
    have hcut := HCUT.out (w1.alloc (.cells #[.int .i64 (-1), .int .i64 0] 99)) trivial ((HC.out.below hb2).more (by simp; omega))
    have HB2 := Lib.hid hb2
    have HCU := Lib.hid hcut
    clear hb1 hb2 hcut HCUT HE
    go_wp2_with (go_at_call 60; refine halt_ ?_)
    refine Halt_.go ?_
    refine HCU.out.mono ?_
    rintro e w2 ⟨Ab, cb, hd, Al, cl, rfl, h1, h2⟩
    have HOR := Lib.hid (order_any _ Ab cb (wBl l) hd Al cl (wLk l) w2 h1 (wLk_len l) (wLk_part l) (by have := wBl_le l; omega))
    have HB3 := Lib.hid (HB2.out.trans (h2.mono (by simp; omega)))
    have hsz3 := HB3.out.size
    clear h1 h2 HCU
    go_wp2_with (go_at_call 61; refine halt_ ?_)
    refine Halt_.go ?_
    refine HOR.out.mono ?_
    rintro e w3 ⟨Ao, co, rfl, h1, h2⟩
    have HF := Lib.hid (h1.base hsz3)
    have HB4 := Lib.hid (HB3.out.trans (h2.mono hsz3))
    clear h1 h2 HOR
    go_wp2
    go_ret2
    exact ⟨.inr ⟨trivial, Ao, co, rfl, HF.out⟩, HB4.out⟩
  · have e1 : (y != 0) = true := by simpa using hy
    have HY := Lib.hid hy
    clear hy
    go_enter Try.func16, Try.ntmps16
    go_wp2_with (go_at_call 59; refine halt_ ?_)
    refine Halt_.go ?_
    refine HE.out.mono ?_
    rintro e w1 ⟨rfl, hb1⟩
    have HB1 := Lib.hid hb1
    have hsz := hb1.size
    unfold oddV
    clear hb1 HCUT HE
    go_wp2
    go_quiet (fail)
    go_wp2
    go_ret2
    refine ⟨.inl ⟨HY.out, rfl⟩, ?_⟩
    have hB := HB1.out
    refine bdrewN ?_ _
    exact hB.alloc hsz _
end Go.Proofs.Ytjifpjfinffamaa
