/- Walks: witness.Ahead [17], the law's long [11] and known [12]. -/
import Derived.Test.YtjifpjfinffamaaYH
namespace Go.Proofs.Ytjifpjfinffamaa
open Go.RowKit

/-- is block a over ahead of the beginning of block b? -/
def ahN (bl : List Bl) (i k : Nat) : Bool := ((blAt bl i).kind != 5) && decide (((blAt bl i).last : Int) < ((blAt bl k).first : Int))
def ahB (bl : List Bl) (a b : Int) : Bool := decide (0 ≤ a) && decide (0 ≤ b) && decide (a < bl.length) && decide (b < bl.length) && ahN bl a.toNat b.toNat

set_option linter.unusedSimpArgs false in
set_option maxRecDepth 100000 in
set_option maxHeartbeats 3200000 in
theorem ahead_any (A : Option Addr) (cap : Nat) (l : List Ev) (a b : Int) (w : World) (hl : l.length ≤ 1099511627776) (hc : EvR w w.heap.size A l) :
    Calls Try.prog 17 #[.slice A l.length cap, .int .i64 a, .int .i64 b] w fun e w' => ∃ r, e = .returned (.bool r) ∧ ((chk ss0 l 0).2 ≠ 0 ∧ r = false ∨ chk ss0 l 0 = (-1, 0) ∧ r = ahB (wBl l) a b) ∧ Below w.heap.size w w' := by
  have HBA := Lib.hid (blocks_any A cap l w hl hc)
  clear hc
  rcases chk_cases l 0 ss0 with hk | hk
  · have HK := Lib.hid hk
    have HB0 : Hid (Calls Try.prog 15 #[.slice A l.length cap] w fun e w' => (∃ Ab cb hd, e = .returned (.tuple #[.slice Ab (wBl l).length cb, .int .i64 0]) ∧ HB w' w.heap.size Ab (wBl l).length cb (wBl l) hd) ∧ Below w.heap.size w w') := by
      refine Calls.mono HBA.out ?_
      rintro e w' ⟨h1 | h1, h2⟩
      · exact absurd (by rw [HK.out]) h1.1
      · exact ⟨h1.2, h2⟩
    clear hk HBA
    obtain ⟨bl, hbl⟩ : ∃ bl, bl = wBl l := ⟨_, rfl⟩
    obtain ⟨n, hn⟩ : ∃ n, n = bl.length := ⟨_, rfl⟩
    obtain ⟨r, hr⟩ : ∃ r, r = ahB (wBl l) a b := ⟨_, rfl⟩
    rw [← hr]
    rw [← hbl] at hr HB0
    rw [← hn] at HB0
    unfold ahB at hr
    rw [← hn] at hr
    have HN := Lib.hid hn
    have HR := Lib.hid hr
    clear hn hr hbl
    by_cases ha0 : 0 ≤ a
    · by_cases hb0 : 0 ≤ b
      · obtain ⟨i, rfl⟩ := Int.eq_ofNat_of_zero_le ha0
        obtain ⟨k, rfl⟩ := Int.eq_ofNat_of_zero_le hb0
        have d1 : decide ((i : Int) < 0) = false := by simp
        have d2 : decide ((k : Int) < 0) = false := by simp
        by_cases hin : (i : Int) < (n : Int)
        · have d3 : decide ((n : Int) ≤ (i : Int)) = false := by simp; omega
          by_cases hkn : (k : Int) < (n : Int)
          · have d4 : decide ((n : Int) ≤ (k : Int)) = false := by simp; omega
            have hr := HR.out
            rw [decide_eq_true ha0, decide_eq_true hb0, decide_eq_true hin, decide_eq_true hkn] at hr
            simp only [Bool.true_and, Int.toNat_natCast] at hr
            unfold ahN at hr
            have HR2 := Lib.hid hr
            clear hr HR
            go_enter Try.func17, Try.ntmps17
            go_wp2_with (go_at_call 15; refine halt_ ?_)
            refine Halt_.go ?_
            refine HB0.out.mono ?_
            rintro e w1 ⟨⟨Ab, cb, hd, rfl, hb⟩, hbel⟩
            obtain ⟨g, hA, hg, hci, _, _⟩ := hb.reads.at_ (Below.refl _ _) (j := i) (by omega)
            subst hA
            obtain ⟨g', hA', _, hck, _, _⟩ := hb.reads.at_ (Below.refl _ _) (j := k) (by omega)
            injection hA' with hA'
            injection hA' with hA'
            subst hA'
            have c1 := hci.c1
            have c3 := hci.c3
            have d5 := hck.c2
            have HBEL := Lib.hid hbel
            have hr2 := HR2.out
            clear hb hci hck hbel HR2 HB0
            obtain ⟨bi, hbi⟩ : ∃ bi, bi = blAt bl i := ⟨_, rfl⟩
            obtain ⟨bk, hbk⟩ : ∃ bk, bk = blAt bl k := ⟨_, rfl⟩
            rw [← hbi] at c1 c3 hr2
            rw [← hbk] at d5 hr2
            clear hbi hbk
            obtain ⟨th, kd, f, la, nm, bw, er, rd, wt⟩ := bi
            obtain ⟨th', kd', f', la', nm', bw', er', rd', wt'⟩ := bk
            simp only at c1 c3 d5 hr2
            by_cases h5 : kd = 5
            · subst h5
              have hrf : r = false := by rw [hr2]; simp
              subst hrf
              clear hr2
              go_wp2
              go_quiet (fail)
              go_wp2
              go_ret
              exact ⟨_, rfl, .inr ⟨HK.out, rfl⟩, bdrewN HBEL.out _⟩
            · have e5 : (kd != 5) = true := by simpa using h5
              have hrf : r = decide ((la : Int) < (f' : Int)) := by rw [hr2]; simp [h5]
              subst hrf
              clear hr2 h5
              go_wp2
              go_quiet (fail)
              go_wp2
              go_ret
              exact ⟨_, rfl, .inr ⟨HK.out, by simp⟩, bdrewN HBEL.out _⟩
          · have d4 : decide ((n : Int) ≤ (k : Int)) = true := by simp; omega
            have hrf : r = false := by rw [HR.out, decide_eq_false hkn]; simp
            subst hrf
            have hkn2 : (n : Int) ≤ (k : Int) := by omega
            clear HR
            go_enter Try.func17, Try.ntmps17
            go_wp2_with (go_at_call 15; refine halt_ ?_)
            refine Halt_.go ?_
            refine HB0.out.mono ?_
            rintro e w1 ⟨⟨Ab, cb, hd, rfl, hb⟩, hbel⟩
            have HBEL := Lib.hid hbel
            clear hb hbel HB0
            go_wp2
            go_ret
            exact ⟨_, rfl, .inr ⟨HK.out, rfl⟩, HBEL.out⟩
        · have d3 : decide ((n : Int) ≤ (i : Int)) = true := by simp; omega
          have hrf : r = false := by rw [HR.out, decide_eq_false hin]; simp
          subst hrf
          have hin2 : (n : Int) ≤ (i : Int) := by omega
          clear HR
          go_enter Try.func17, Try.ntmps17
          go_wp2_with (go_at_call 15; refine halt_ ?_)
          refine Halt_.go ?_
          refine HB0.out.mono ?_
          rintro e w1 ⟨⟨Ab, cb, hd, rfl, hb⟩, hbel⟩
          have HBEL := Lib.hid hbel
          clear hb hbel HB0
          go_wp2
          go_ret
          exact ⟨_, rfl, .inr ⟨HK.out, rfl⟩, HBEL.out⟩
      · have d1 : decide (a < 0) = false := by simp; omega
        have d2 : decide (b < 0) = true := by simp; omega
        have hrf : r = false := by rw [HR.out, decide_eq_false hb0]; simp
        subst hrf
        clear hb0 HR ha0
        go_enter Try.func17, Try.ntmps17
        go_wp2_with (go_at_call 15; refine halt_ ?_)
        refine Halt_.go ?_
        refine HB0.out.mono ?_
        rintro e w1 ⟨⟨Ab, cb, hd, rfl, hb⟩, hbel⟩
        have HBEL := Lib.hid hbel
        clear hb hbel HB0
        go_wp2
        go_ret
        exact ⟨_, rfl, .inr ⟨HK.out, rfl⟩, HBEL.out⟩
    · have d1 : decide (a < 0) = true := by simp; omega
      have hrf : r = false := by rw [HR.out, decide_eq_false ha0]; simp
      subst hrf
      clear ha0 HR
      go_enter Try.func17, Try.ntmps17
      go_wp2_with (go_at_call 15; refine halt_ ?_)
      refine Halt_.go ?_
      refine HB0.out.mono ?_
      rintro e w1 ⟨⟨Ab, cb, hd, rfl, hb⟩, hbel⟩
      have HBEL := Lib.hid hbel
      clear hb hbel HB0
      go_wp2
      go_ret
      exact ⟨_, rfl, .inr ⟨HK.out, rfl⟩, HBEL.out⟩
  · have HK := Lib.hid hk
    have HB0 : Hid (Calls Try.prog 15 #[.slice A l.length cap] w fun e w' => e = .returned (.tuple #[.slice none 0 0, .int .i64 (chk ss0 l 0).2]) ∧ Below w.heap.size w w') := by
      refine Calls.mono HBA.out ?_
      rintro e w' ⟨h1 | h1, h2⟩
      · exact ⟨h1.2, h2⟩
      · exact absurd (by rw [h1.1]) HK.out
    clear hk HBA
    generalize chk ss0 l 0 = R at *
    obtain ⟨x, y⟩ := R
    have e1 : (y != 0) = true := by
      have := HK.out
      simpa using this
    simp only at HB0
    go_enter Try.func17, Try.ntmps17
    go_wp2_with (go_at_call 15; refine halt_ ?_)
    refine Halt_.go ?_
    refine HB0.out.mono ?_
    rintro e w1 ⟨rfl, hbel⟩
    have HBEL := Lib.hid hbel
    clear hbel HB0
    go_wp2
    go_ret
    exact ⟨_, rfl, .inl ⟨HK.out, rfl⟩, HBEL.out⟩

theorem long_any (A : Option Addr) (cap : Nat) (n : Nat) (w : World) : Calls Try.prog 11 #[.slice A n cap] w fun e w' => e = .returned (.bool (decide ((600 : Int) < (n : Int)))) ∧ w' = w := by
  go_enter Try.func11, Try.ntmps11
  go_wp2
  go_ret
  exact ⟨rfl, rfl⟩

def l5 : List Ev := [⟨0, 1, 0, 0, false, 0⟩, ⟨0, 2, 0, 5, false, 0⟩, ⟨0, 3, 1, 6, false, 0⟩, ⟨0, 5, 0, 0, false, 0⟩, ⟨0, 6, 0, 1, false, 0⟩]
theorem l5_chk : chk ss0 l5 0 = (-1, 0) := by decide
theorem l5_bl : wBl l5 = [⟨0, 1, 0, 4, 1, true, 0, [(0, 5)], [(1, 6)]⟩] := by rfl
theorem l5_ord : ordS (wBl l5) (wLk l5) (wBl l5).length = [0] := by rfl
theorem l5_reads (w : World) (g : Nat) (hg : g < w.heap.size) (h : w.heap[g]? = some (.cells (l5.flatMap ecell).toArray 97 (0, 0))) : EvR w w.heap.size (some ⟨g, 0, none⟩) l5 := by
  refine EvR.of_cells ?_ hg fun j u hu => ?_
  · intro e he
    simp only [l5, List.mem_cons, List.not_mem_nil, or_false] at he
    rcases he with rfl | rfl | rfl | rfl | rfl <;> simp [Ev.Wd]
  rw [cell_of_row w g j _ 97 (0, 0) h]
  simpa using hu

def b5 : Bl := ⟨0, 1, 0, 4, 1, true, 0, [(0, 5)], [(1, 6)]⟩
def W5 (w : World) : World := w.alloc (.cells #[.int .i64 0, .int .i64 1, .int .u64 0, .int .u64 0, .bool false, .int .i64 0, .int .i64 0, .int .i64 2, .int .u64 0, .int .u64 5, .bool false, .int .i64 0, .int .i64 0, .int .i64 3, .int .u64 1, .int .u64 6, .bool false, .int .i64 0, .int .i64 0, .int .i64 5, .int .u64 0, .int .u64 0, .bool false, .int .i64 0, .int .i64 0, .int .i64 6, .int .u64 0, .int .u64 1, .bool false, .int .i64 0] 97)
theorem W5_heap (w : World) : (W5 w).heap[w.heap.size]? = some (.cells (l5.flatMap ecell).toArray 97 (0, 0)) := heap_at _ _ _ rfl
theorem W5_size (w : World) : (W5 w).heap.size = w.heap.size + 1 := by simp [W5]
theorem known_blocks (w : World) : Calls Try.prog 15 #[.slice (some ⟨w.heap.size, 0, none⟩) 5 5] (W5 w) fun e w' => (∃ Ab cb hd, e = .returned (.tuple #[.slice Ab 1 cb, .int .i64 0]) ∧ HB w' (w.heap.size + 1) Ab 1 cb [b5] hd) ∧ Below (w.heap.size + 1) (W5 w) w' := by
  have h1 := blocks_any (some ⟨w.heap.size, 0, none⟩) 5 l5 (W5 w) (by decide) (l5_reads _ _ (by rw [W5_size]; omega) (W5_heap w))
  refine Calls.mono h1 ?_
  rintro e w' ⟨⟨h, _⟩ | ⟨_, Ab, cb, hd, rfl, hb⟩, hbel⟩
  · exact absurd (by rw [l5_chk]) h
  · rw [W5_size] at hbel hb
    rw [l5_bl] at hb ⊢
    exact ⟨⟨Ab, cb, hd, rfl, hb⟩, hbel⟩
theorem known_order (w W : World) (hb : Below (w.heap.size + 1) (W5 w) W) : Calls Try.prog 16 #[.slice (some ⟨w.heap.size, 0, none⟩) 5 5] W fun e w' => (∃ Ao co, e = .returned (.tuple #[.slice Ao 1 co, .int .i64 0])) ∧ Below W.heap.size W w' := by
  have hs := hb.size
  rw [W5_size] at hs
  have h1 := wOrder_any (some ⟨w.heap.size, 0, none⟩) 5 l5 W (by decide) (l5_reads _ _ (by omega) ((hb.block _ (Nat.lt_succ_self _)).trans (W5_heap w)))
  refine Calls.mono h1 ?_
  rintro e w' ⟨⟨h, _⟩ | ⟨_, Ao, co, rfl, _⟩, hbel⟩
  · exact absurd (by rw [l5_chk]) h
  · rw [l5_ord]
    exact ⟨⟨Ao, co, rfl⟩, hbel⟩

set_option linter.unusedSimpArgs false in
set_option maxRecDepth 100000 in
set_option maxHeartbeats 3200000 in
theorem known15_any (w : World) : Calls Try.prog 12 #[] w fun e w' => e = .returned (.bool true) ∧ Below w.heap.size w w' := by
  have hal : Below w.heap.size w (W5 w) := (Below.refl _ _).alloc (Nat.le_refl _) _
  have H1 := Lib.hid (known_blocks w)
  have H2 := Lib.hid (known_order w)
  have HAL := Lib.hid hal
  clear hal
  go_enter Try.func12, Try.ntmps12
  go_wp2_with (go_at_call 15; refine halt_ ?_)
  refine Halt_.go ?_
  refine H1.out.mono ?_
  rintro e w1 ⟨⟨Ab, cb, hd, rfl, hb⟩, hbel⟩
  have HBE := Lib.hid hbel
  have HB := Lib.hid hb
  clear hbel hb H1
  go_wp2_with (go_at_call 16; refine halt_ ?_)
  refine Halt_.go ?_
  refine (H2.out w1 HBE.out).mono ?_
  rintro e w2 ⟨⟨Ao, co, rfl⟩, hbel2⟩
  have hb2 := HB.out.below (Nat.le_refl _) hbel2
  obtain ⟨g, hA, _, hc, _, _⟩ := hb2.reads.at_ (Below.refl _ _) (j := 0) (by decide)
  subst hA
  obtain ⟨Ar, cr, hr⟩ := own_shape (hb2.own 0 (by decide))
  obtain ⟨At, ct, ht⟩ := own_shape (hb2.own 1 (by decide))
  have c1 : w2.cell? ⟨g, 1, none⟩ = some (.int .i64 1) := hc.c1
  have c3 : w2.cell? ⟨g, 3, none⟩ = some (.int .i64 4) := hc.c3
  have c4 : w2.cell? ⟨g, 4, none⟩ = some (.int .u64 1) := hc.c4
  have c5 : w2.cell? ⟨g, 5, none⟩ = some (.bool true) := hc.c5
  have c7 : w2.cell? ⟨g, 7, none⟩ = some (.slice Ar 1 cr) := by
    have := hc.c7
    rw [show hd (2 * 0) = .slice Ar 1 cr from hr] at this
    exact this
  have c8 : w2.cell? ⟨g, 8, none⟩ = some (.slice At 1 ct) := by
    have := hc.c8
    rw [show hd (2 * 0 + 1) = .slice At 1 ct from ht] at this
    exact this
  have HF := Lib.hid (HAL.out.trans ((HBE.out.trans (hbel2.mono (by have := HBE.out.size; rw [W5_size] at this; omega))).mono (Nat.le_succ _)))
  clear hbel2 hb2 hc hr ht HB HBE H2
  go_wp2
  go_ret
  exact ⟨rfl, HF.out⟩
end Go.Proofs.Ytjifpjfinffamaa
