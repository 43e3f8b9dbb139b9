/- commit. -/
import Derived.Test.YtomcobcmjocapaaGreatDoorS
import Derived.Test.YtomcobcmjocapaaGreatDoorR0
namespace Go.Proofs.YtomcobcmjocapaaGreatDoor
open Go.RowKit Go.MuLone Go.Shelf
attribute [local go_sem] Oper.semAt_some
/-- within the walk over the puts: all lies as it lay, but for the words -/
structure ComI (w3 W : World) (n₁ g lo0 cb : Nat) (ws : List Int) : Prop where
  os : W.os = w3.os
  tape : W.tape = w3.tape
  output : W.output = w3.output
  size : n₁ ≤ W.heap.size
  blk : ∀ k, k < n₁ → k ≠ g → W.heap[k]? = w3.heap[k]?
  cel : CelR W lo0 cb g ws
/-- what commit ends in -/
def ComE (w : World) (lo0 b m cb g sc ch : Nat) (ws : List Int) (ck st od : Int) (sb : Bool) (I : TI) (sn : Int) (R : List (Int × Int)) (a : Nat) (x : Int) (e' : Ending) (w' : World) : Prop :=
  (ck ≠ sn ∧ othB R ws = true ∧ e' = .returned (.tuple #[.int .u64 0, .bool false]) ∧ MemR w' lo0 m cb g sc ch ws ck st od sb ∧ Ex w w' (TxS b I)) ∨
    ((ck = sn ∨ othB R ws = false) ∧ e' = .returned (.tuple #[.int .u64 (ck / 2 + 1), .bool true]) ∧ ∃ ch', MemR w' lo0 m cb g sc ch' (ws.set a x) (ck + 2) st od sb ∧ Ex w w' (fun k => TxS b I k ∨ k = m ∨ k = g ∨ k = ch))
section
variable {lo b m : Nat} {I : TI} {sn e ov : Int} {R : List (Int × Int)}
variable {lo0 cb g sc ch : Nat} {ws : List Int} {ck st od : Int} {sb : Bool}
set_option linter.unusedSimpArgs false in
set_option maxRecDepth 100000 in
set_option maxHeartbeats 12800000 in
theorem txCommit (w : World) (a : Nat) (x : Int) (hm : MemR w lo0 m cb g sc ch ws ck st od sb) (h : TxR w lo b m I sn R (some ((a : Int), x)) e ov) (hl : Lies lo m cb g sc) (hwl : ws.length ≤ 65536) (hRl : R.length < 1000) (hR : ∀ p ∈ R, ∃ a : Nat, p.1 = a ∧ a < ws.length) (hev : ck = 0 ∨ ck = 2) (ha : a < ws.length) :
    Calls Tryz.prog 31 #[.pointer (some ⟨b, 0, none⟩)] w (ComE w lo0 b m cb g sc ch ws ck st od sb I sn R a x) := by
  refine (callsIn_wide (n := 6)).1 ?_
  refine callsIn_of_wp_marks Tryz.func31 rfl trivial ?_ rfl
  simp only [Tryz.ntmps31, List.size_toArray, List.length_cons, List.length_nil, Nat.reduceAdd, Nat.reduceSub, Array.replicate_succ, Array.replicate_zero, List.push_toArray, List.append_toArray, List.nil_append, List.cons_append]
  refine wpIn_wide.2 ?_
  have c0 : w.cell? ⟨b, 0, none⟩ = some (.pointer (some ⟨m, 0, none⟩)) := (h.c (i := 0) (by omega)).1
  have hbl : b < w.heap.size := h.blk.lt.2
  have c3w : w.cell? ⟨b, 3, none⟩ = some (.pointer (some ⟨I.ro, 0, none⟩)) := (h.c (i := 3) (by omega)).1
  obtain ⟨N0, hN0⟩ : ∃ N0, N0 = w.heap.size := ⟨_, rfl⟩
  obtain ⟨w1, hw1⟩ : ∃ w1, w1 = w.alloc (.cells #[.pointer (some ⟨m, 0, none⟩)] 27) := ⟨_, rfl⟩
  have hb1 : Below w.heap.size w w1 := by rw [hw1]; exact (Below.refl _ _).alloc (Nat.le_refl _) _
  have hs1 : w1.heap.size = N0 + 1 := by rw [hw1, hN0]; simp
  have hk1 : w1.heap[N0]? = some (.cells #[.pointer (some ⟨m, 0, none⟩)] 27 (0, 0)) := by rw [hw1, hN0]; exact heap_at _ _ _ rfl
  have HM1 : Hid (MemP w1 lo0 m cb g sc ch ws ck st od sb 0 0 false) := hm.toP.below hb1
  have HT1 : Hid (TxR w1 lo b m I sn R (some ((a : Int), x)) e ov) := h.kept fun k hk => hb1.block k (h.lt hk).2
  have HTL : Hid (∀ k, TxS b I k → k < N0) := fun k hk => by rw [hN0]; exact (h.lt hk).2
  have HML : Hid (m < N0 ∧ cb < N0 ∧ g < N0 ∧ sc < N0 ∧ ch < N0) := by
    have := hm.blk.lt
    have := hm.cel.lt
    have := hm.lch
    exact ⟨by omega, by omega, by omega, by omega, by omega⟩
  have c3 : w1.cell? ⟨b, 3, none⟩ = some (.pointer (some ⟨I.ro, 0, none⟩)) := (HT1.out.c (i := 3) (by omega)).1
  have HW1 := Lib.hid hw1
  have HB1 := Lib.hid hb1
  have HR := Lib.hid hR
  have HL := Lib.hid (redoLen w1 HT1.out.red)
  have HN0 := Lib.hid hN0
  clear hm h hw1 hb1 hR hN0
  go_wp2_with (go_at_call 43; refine halt_ ?_)
  refine Halt_.go ?_
  rw [← HW1.out]
  refine HL.out.mono ?_
  rintro e' w' ⟨rfl, rfl⟩
  clear HL c3 c0 c3w
  rw [← HN0.out]
  go_wp2
  clear hs1 hbl
  have HS1 : Hid (w'.heap.size = N0 + 1) := by
    show w'.heap.size = N0 + 1
    rw [HW1.out, HN0.out]; simp
  go_loopg [] 1 (fun g' wr => ∃ s', (s' = ck ∨ 0 < g') ∧ (s' = ck → ck = sn ∨ othB R ws = false) ∧ (s' ≠ ck → s' = sn) ∧ Hid (TxR wr lo b m I s' R (some ((a : Int), x)) e ov) ∧ Hid (MemP wr lo0 m cb g sc ch ws ck st od sb 0 0 false) ∧ Hid (Ex w' wr (TxS b I)))
  case atStart => exact ⟨sn, .inr (by omega), fun h => .inl h.symm, fun _ => rfl, HT1, HM1, Ex.refl _ _⟩
  case round =>
    obtain ⟨s', hs1, hs2, hs3, HTr, HMr, HXr⟩ := hrel
    have bx : wr.cell? ⟨N0, 0, none⟩ = some (.pointer (some ⟨m, 0, none⟩)) := by
      rw [HXr.out.cell (p := ⟨N0, 0, none⟩) (show N0 < w'.heap.size by have := HS1.out; omega) (fun h => absurd (HTL.out _ h) (Nat.lt_irrefl _))]
      exact cell_of_row w' _ 0 _ _ _ hk1
    have c1 : wr.cell? ⟨b, 1, none⟩ = some (.int .u64 s') := (HTr.out.c (i := 1) (by omega)).1
    have HSS := Lib.hid (And.intro hs1 (And.intro hs2 hs3))
    obtain ⟨m1, z1⟩ := HMr.out.c (i := 1) (by omega)
    replace m1 : wr.cell? ⟨m, 1, none⟩ = some (.int .u64 ck) := m1
    have HC1 := Lib.hid m1
    have HZ1 := Lib.hid z1
    clear hs1 hs2 hs3 HT1 HM1 m1 z1
    by_cases hcs : ck = s'
    · subst hcs
      have hw64 : IntKind.u64.wrap (ck + 1) = ck + 1 := by rcases hev with rfl | rfl <;> rfl
      go_wp2
      go_still_tail 12, (by kernel_rfl)
      change wpList _ _ _ _ _ wr.drew
      go_wp2_with (go_at_call 44; refine halt_ ?_)
      refine Halt_.go ?_
      refine (u64CasH wr.drew HC1.out HZ1.out).mono ?_
      rintro e' w2 ⟨rfl, hw2⟩
      obtain ⟨l1, l2, l3, l4⟩ := hl
      have hset2 : ∀ k, k ≠ m → w2.heap[k]? = wr.heap[k]? := fun k hk => by rw [hw2]; exact Below.heap_setCell wr.drew ⟨m, 1, none⟩ _ k hk
      have hmT : ¬ TxS b I m := fun h => by have := (HTr.out.lt h).1; omega
      have hM2 : MemP w2 lo0 m cb g sc ch ws (ck + 1) st od sb 0 0 false := by
        have h0 : MemP wr.drew lo0 m cb g sc ch ws ck st od sb 0 0 false := HMr.out.ex (S := fun _ => False) (Ex.refl _ _).drew id id id id id
        rw [hw2]
        exact h0.setCk (ck + 1)
      have hT2 : TxR w2 lo b m I ck R (some ((a : Int), x)) e ov := HTr.out.kept fun k hk => hset2 k fun e => hmT (by rw [← e]; exact hk)
      have hX2 : Ex w' w2 (fun k => TxS b I k ∨ k = m) := by
        rw [hw2]
        exact ((HXr.out.grow fun k h => .inl h).drew).set _ _ fun _ => .inr rfl
      have hN2 : m ≠ N0 := by have := HML.out.1; omega
      have hk2 : w2.heap[N0]? = some (.cells #[.pointer (some ⟨m, 0, none⟩)] 27 (0, 0)) := by
        rw [hset2 N0 (Ne.symm hN2), HXr.out.block N0 (show N0 < w'.heap.size by have := HS1.out; omega) (fun h => absurd (HTL.out _ h) (Nat.lt_irrefl _))]
        exact hk1
      have hs2 : N0 + 1 ≤ w2.heap.size := by have := hX2.size; have := HS1.out; omega
      have HQ := Lib.hid (HSS.out.2.1 trivial)
      have HM2 := Lib.hid hM2
      have HT2 := Lib.hid hT2
      have HX2 := Lib.hid hX2
      have HK2 := Lib.hid hk2
      have c3 : w2.cell? ⟨b, 3, none⟩ = some (.pointer (some ⟨I.ro, 0, none⟩)) := (hT2.c (i := 3) (by omega)).1
      clear hw2 hset2 hM2 hT2 hX2 hk2 HTr HMr HXr bx c1 HC1 HZ1 HSS hk1 HW1 hw64
      go_wp2_with (go_at_call 46; refine halt_ ?_)
      refine Halt_.go ?_
      refine (redoAll I.ro w2).mono ?_
      rintro e' w3 ⟨rfl, hw3⟩
      have hb3 : Below w2.heap.size w2 w3 := by rw [hw3]; exact ((Below.refl _ w2).alloc (Nat.le_refl _) _).alloc (by simp) _
      have hs3 : w3.heap.size = w2.heap.size + 2 := by rw [hw3]; simp [allW]
      obtain ⟨N2, hN22⟩ : ∃ N2, N2 = w2.heap.size := ⟨_, rfl⟩
      have k2 : w3.heap[N2]? = some (.cells #[.pointer (some ⟨I.ro, 0, none⟩)] 76 (0, 0)) := by rw [hw3, hN22]; exact (Go.heap_alloc_old _ _ (by simp)).trans (heap_at _ _ _ rfl)
      have k3 : w3.heap[N2 + 1]? = some (.cells #[.func (.func 62) #[] #[.pointer (some ⟨N2, 0, none⟩)]] 125 (0, 0)) := by rw [hw3, hN22]; exact heap_at _ _ _ (by simp)
      clear hw3
      go_wp2
      rw [← hN22]
      obtain ⟨n₁, hn1⟩ : ∃ n₁, n₁ = w3.heap.size := ⟨_, rfl⟩
      have e3 : n₁ = N2 + 2 := by omega
      obtain ⟨R1, hR1⟩ : ∃ R1 : List (Int × Int), R1 = [((a : Int), x)] := ⟨_, rfl⟩
      have hR1l : R1.length = 1 := by rw [hR1]; rfl
      obtain ⟨A, c, hvD⟩ := own_shape HT2.out.red.row
      have hcl : ∀ W, Below w3.heap.size w3 W → Calls Tryz.prog 62 #[.pointer (some ⟨N2, 0, none⟩)] W fun e W' => e = .returned (.slice A R1.length R1.length) ∧ ∃ k, W' = W.drewN k := by
        intro W hW
        have hbW : Below w2.heap.size w2 W := hb3.trans (hW.mono (by omega))
        rw [hR1l]
        refine redoAll1 W (HT2.out.red.kept fun k hk => hbW.block k (HT2.out.red.lt hk).2) N2 ?_ A c hvD
        rw [hW.cell (p := ⟨N2, 0, none⟩) (show N2 < w3.heap.size by omega)]
        exact cell_of_row w3 _ 0 _ _ _ k2
      obtain ⟨el, hel⟩ := en_list R1
      have hob : ∃ ob, 0 < R1.length → A = some ⟨ob, 0, none⟩ ∧ (ob < n₁ ∧ ob ≠ g ∧ ob ≠ g) ∧ ∀ j p, R1[j]? = some p → w3.cell? ⟨ob, j * 2, none⟩ = some (.int .u64 p.1) ∧ w3.cell? ⟨ob, j * 2 + 1, none⟩ = some (.int .u64 p.2) := by
        have hrow := HT2.out.red.row
        have hown : TxS b I = TxS b I := rfl
        rw [hvD] at hrow
        obtain ⟨g', c', hv, hbg, hg⟩ := hrow.form (show 0 < on (some ((a : Int), x)) from Nat.zero_lt_one)
        injection hv with hv1 _ hv3
        subst hv1 hv3
        refine ⟨g', fun _ => ⟨rfl, ⟨by omega, ?_, ?_⟩, fun j p hp => ?_⟩⟩
        · have := (HT2.out.red.lt (k := g') (.inr (.inr (.inr (.inl (by rw [hvD]; rfl)))))).1; omega
        · have := (HT2.out.red.lt (k := g') (.inr (.inr (.inr (.inl (by rw [hvD]; rfl)))))).1; omega
        · have hj : j < R1.length := (List.getElem?_eq_some_iff.1 hp).1
          obtain rfl : j = 0 := by omega
          rw [hR1] at hp
          obtain rfl : ((a : Int), x) = p := by simpa using hp
          refine ⟨(hb3.cell (p := ⟨g', 0 * 2, none⟩) hg).trans ?_, (hb3.cell (p := ⟨g', 0 * 2 + 1, none⟩) hg).trans ?_⟩
          · rw [hrow.cellAt (0 * 2) (by simp [on])]; rfl
          · rw [hrow.cellAt (0 * 2 + 1) (by simp [on])]; rfl
      obtain ⟨ob, hob⟩ := hob
      have hseq := over_stops (R := R1) 5 (by omega) (N2 + 1) 62 N2 n₁ g g ob (by omega) el hel w3 (by omega) (enters_of Tryz.func62 (by kernel_rfl) rfl) A (cell_of_row w3 _ 0 _ _ _ k3) (by omega) hcl hob
      have HSEQ := Lib.hid hseq
      have HEL := Lib.hid hel
      have HB3 := Lib.hid hb3
      have HR1 := Lib.hid hR1
      have HCE : Hid (CelR w3 lo0 cb g ws) := (HM2.out.below hb3).cel
      have q1 : n₁ ≤ w3.heap.size := by omega
      have q2 : w3.heap.size ≤ n₁ := by omega
      have q3 : w2.heap.size ≤ N2 := by omega
      have q4 : N2 ≤ w2.heap.size := by omega
      clear hseq hel hb3 hcl hob hR1 k2 k3 c3 hn1 hN22 hvD hs3
      refine wpIn_wide (n := 6).1 (wpIn_rangeFunc_ownH rfl (by omega) (gf := 74) (lb := #[.pointer (some ⟨N2 + 1, 0, none⟩)]) rfl trivial (enters_of Tryz.func74 (by kernel_rfl) rfl)
        HSEQ.out (fun h k => h.trans k) (fun W l o o' hl ho _ _ => ?kb) (Below.refl _ _) (fun _ => rfl)
        (fun pre W => ComI w3 W n₁ g lo0 cb (if pre.length = 0 then ws else ws.set a x))
        (fun _ _ _ => False)
        (fun s W W' row hi hg hr => ?own)
        (fun c s W W' row hi hg hr => hi.elim)
        ?start
        (fun y a' W => ∃ cbk, n₁ ≤ cbk ∧ W.heap[cbk]? = some (.cells #[.int .u64 y.1.2.1, .int .u64 y.1.2.2] 102 (0, 0)) ∧ a' = { tmps := #[.pointer (some ⟨b, 0, none⟩), undef, u2, u3, .pointer (some ⟨N0, 0, none⟩), undef, .pointer (some ⟨cbk, 0, none⟩), .pointer (some ⟨b, 0, none⟩), .pointer (some ⟨b, 0, none⟩), .pointer (some ⟨b, 0, none⟩), .pointer (some ⟨m, 0, none⟩), .pointer (some ⟨b, 0, none⟩), .pointer (some ⟨b, 0, none⟩), .pointer (some ⟨b, 3, none⟩), .pointer (some ⟨I.ro, 0, none⟩), .int .i64 (on (some ((a : Int), x)) : Nat), .bool false, undef, undef, undef, undef, undef, .pointer (some ⟨m, 0, none⟩), .pointer (some ⟨m, 0, none⟩), .pointer (some ⟨m, 1, none⟩), .pointer (some ⟨b, 0, none⟩), .pointer (some ⟨b, 0, none⟩), .pointer (some ⟨b, 1, none⟩), .int .u64 ck, .pointer (some ⟨b, 0, none⟩), .pointer (some ⟨b, 0, none⟩), .pointer (some ⟨b, 1, none⟩), .int .u64 ck, .int .u64 (ck + 1), .bool true, .bool false, u36, u37, u38, .pointer (some ⟨b, 0, none⟩), .pointer (some ⟨b, 0, none⟩), .pointer (some ⟨b, 3, none⟩), .pointer (some ⟨I.ro, 0, none⟩), .func (.func 74) #[] #[.pointer (some ⟨N2 + 1, 0, none⟩)], .int .i64 (y.1.1 : Int), .agg #[.int .u64 y.1.2.1, .int .u64 y.1.2.2], undef, undef, undef, undef, undef, undef, undef, undef, undef, undef, undef, undef, undef, undef, undef, undef, undef, undef, undef, undef, undef, undef, undef, undef, undef, undef, undef, undef, undef, undef, undef, undef, undef, undef, undef, undef, undef, undef, undef, undef], defers := [] })
        (fun y a' s W W' row hi hg hr => ?ownA)
        (fun l pre y W K hi hK => ?assign)
        (fun l pre y a' W hl hrec hi hA hlt => ?body)
        (fun D xs W hD hS hi hd => ?done)
        (fun D c pre W hD hS hi hd => hi.elim))
      case kb => exact ⟨fun k hk _ _ => World.putObj_heap_other (by omega), by simp⟩
      case own =>
        have hne : ∀ k, k < n₁ → some k ≠ row := fun k hk e => by have := (hr k e.symm).1; omega
        have hm4 := HML.out
        have hsz := hi.size
        have hlg : g < n₁ := by omega
        have hlc : cb < n₁ := by omega
        exact ⟨hg.os.trans hi.os, hg.tape.trans hi.tape, hg.output.trans hi.output, Nat.le_trans hi.size hg.size, fun k hk h1 => (hg.block k (by omega) (hne k hk)).trans (hi.blk k hk h1), hi.cel.kept (hg.block cb (by omega) (hne cb hlc)) (hg.block _ (by omega) (hne _ hlg))⟩
      case start => exact ⟨rfl, rfl, rfl, q1, fun _ _ _ => rfl, HCE.out⟩
      case ownA =>
        obtain ⟨cbk, h1, h2, h3⟩ := hi
        refine ⟨cbk, h1, (hg.block cbk (Array.getElem?_eq_some_iff.1 h2).1 (fun e => ?_)).trans h2, h3⟩
        obtain ⟨_, o, ho, hoc⟩ := hr cbk e.symm
        have h4 : o = Obj.cells #[.int .u64 y.1.2.1, .int .u64 y.1.2.2] 102 (0, 0) := (Option.some.inj (h2.symm.trans ho)).symm
        rw [h4] at hoc
        simp [Obj.isCells] at hoc
      case assign =>
        have hs := hi.size
        have hm4 := HML.out
        simp only [enEnc]
        gi_wp2
        refine hK _ _ (KeepsFrom.of_grownBy (World.grownBy_alloc W _ none) (fun j h => by cases h)) ⟨fun k hk _ _ => Below.heap_alloc _ _ _ (by omega), by simp⟩ ⟨hi.os, hi.tape, hi.output, by simp; omega, fun k hk h1 => (Below.heap_alloc _ _ _ (by omega)).trans (hi.blk k hk h1), hi.cel.kept (Below.heap_alloc _ _ _ (by omega)) (Below.heap_alloc _ _ _ (by omega))⟩ ⟨W.heap.size, by omega, heap_at _ _ _ rfl, rfl⟩
      case body =>
        obtain ⟨cbk, hc1, hc2, rfl⟩ := hA
        have hp := y.2.resolve_right (by omega)
        have hpl : pre.length = 0 := by omega
        rw [if_pos hpl] at hi
        obtain ⟨⟨i, p⟩, hy⟩ := y
        simp only at hp hc2 ⊢
        have hp2 : p = ((a : Int), x) := by
          have := List.mem_of_getElem? hp
          rw [HR1.out] at this
          simpa using this
        subst hp2
        simp only at hc2 ⊢
        have hm4 := HML.out
        have y0 : W.cell? ⟨N0, 0, none⟩ = some (.pointer (some ⟨m, 0, none⟩)) := by
          rw [World.cell?_of_block (hi.blk N0 (by omega) (by omega)), HB3.out.cell (p := ⟨N0, 0, none⟩) (show N0 < w2.heap.size by omega)]
          exact cell_of_row w2 _ 0 _ _ _ HK2.out
        have y2 : W.cell? ⟨m, 0, none⟩ = some (.pointer (some ⟨cb, 0, none⟩)) := by
          rw [World.cell?_of_block (hi.blk m (by omega) (Ne.symm HM2.out.m_ne.2.1)), HB3.out.cell (p := ⟨m, 0, none⟩) (show m < w2.heap.size by omega)]
          exact (HM2.out.c (i := 0) (by omega)).1
        have y3 : W.cell? ⟨cbk, 0, none⟩ = some (.int .u64 (a : Int)) := by rw [cell_of_row W cbk 0 _ 102 (0, 0) hc2]; rfl
        have y4 : W.cell? ⟨cbk, 1, none⟩ = some (.int .u64 x) := by rw [cell_of_row W cbk 1 _ 102 (0, 0) hc2]; rfl
        have HCS := Lib.hid (celStore W.drew (hi.cel.kept rfl rfl) a x ha hwl)
        have hmx : Tryz.prog.follows Departure.mixedOrders = true := by rfl
        have HI := Lib.hid hi
        clear hc2 hp hi
        gi_wp2
        refine still_tail_in_round l _ 8 hmx (by kernel_rfl) (by rintro ⟨a, w, h⟩; exact h) (by kernel_rfl) ?_
        simp only [List.take_succ_cons, List.take_zero, List.drop_succ_cons, List.drop_zero]
        repeat still_step
        try refine wpStill_nil ?_
        change wpList _ _ _ _ _ W.drew
        go_wp2_with (go_at_call 47; refine halt_ ?_)
        refine Halt_.go ?_
        refine HCS.out.mono ?_
        rintro e' W2 ⟨rfl, hW2⟩
        have hset : ∀ k, k ≠ g → W2.heap[k]? = W.heap[k]? := fun k hk => by rw [hW2]; exact Below.heap_setCell W.drew ⟨g, a, none⟩ _ k hk
        have hs2 : W2.heap.size = W.heap.size := by rw [hW2]; simp
        have hcel : CelR W2 lo0 cb g (ws.set a x) := by
          rw [hW2]
          exact (HI.out.cel.kept (w' := W.drew) rfl rfl).set a x
        have HFIN : Hid (ComI w3 W2 n₁ g lo0 cb (ws.set a x)) := by
          refine ⟨?_, ?_, ?_, by rw [hs2]; exact HI.out.size, fun k hk h1 => (hset k h1).trans (HI.out.blk k hk h1), hcel⟩
          · rw [hW2]; exact HI.out.os
          · rw [hW2]; exact HI.out.tape
          · rw [hW2]; exact HI.out.output
        have HSET := Lib.hid hset
        have HS2 := Lib.hid hs2
        clear hW2 hset hs2 hcel
        go_wp2
        refine ⟨⟨by rw [HS2.out]; exact Nat.le_refl _, fun k o hB hk _ => (HSET.out k (by omega)).trans hk⟩, ⟨fun k hk h1 _ => HSET.out k h1, by rw [HS2.out]; exact Nat.le_refl _⟩, ?_⟩
        show ComI w3 W2 n₁ g lo0 cb (if (pre ++ [_]).length = 0 then ws else ws.set a x)
        rw [if_neg (by simp)]
        exact HFIN.out
      case done =>
        obtain rfl := hS
        rw [if_neg (by simp [hR1l])] at hi
        have hm4 := HML.out
        have hne := HM2.out.m_ne
        have hM3 := HM2.out.below HB3.out
        have hWc : ∀ k, k < n₁ → k ≠ g → W.heap[k]? = w2.heap[k]? ∨ w2.heap.size ≤ k := fun k hk h1 => by
          by_cases hk2 : k < w2.heap.size
          · exact .inl ((hi.blk k hk h1).trans (HB3.out.block k hk2))
          · exact .inr (by omega)
        have hMW : MemP W lo0 m cb g sc ch (ws.set a x) (ck + 1) st od sb 0 0 false := by
          refine ⟨hM3.blk.kept (hi.blk m (by omega) (Ne.symm hne.2.1)), hi.cel, (hi.blk ch (by omega) hne.2.2.2.2.2.1).trans hM3.chn, (hi.blk sc (by omega) hne.2.2.2.2.2.2.2.2).trans hM3.schn, ?_⟩
          have := hM3.lch
          have := hi.size
          exact ⟨by omega, by omega, by omega, by omega, by omega⟩
        have y0 : W.cell? ⟨N0, 0, none⟩ = some (.pointer (some ⟨m, 0, none⟩)) := by
          rw [World.cell?_of_block (hi.blk N0 (by omega) (by omega)), HB3.out.cell (p := ⟨N0, 0, none⟩) (show N0 < w2.heap.size by omega)]
          exact cell_of_row w2 _ 0 _ _ _ HK2.out
        have hbN : b < N0 := HTL.out b (.inl rfl)
        have hbg : b ≠ g := by have := (HT2.out.lt (.inl rfl : TxS b I b)).1; omega
        have y1 : W.cell? ⟨b, 1, none⟩ = some (.int .u64 ck) := by
          rw [World.cell?_of_block (hi.blk b (by omega) hbg), HB3.out.cell (p := ⟨b, 1, none⟩) (show b < w2.heap.size by omega)]
          exact (HT2.out.c (i := 1) (by omega)).1
        have hw64 : IntKind.u64.wrap (ck + 2) = ck + 2 := by rcases hev with rfl | rfl <;> rfl
        have HMW := Lib.hid hMW
        have HI := Lib.hid hi
        have HD := Lib.hid hd
        have HNE := Lib.hid hne
        obtain ⟨m1, z1⟩ := hMW.c (i := 1) (by omega)
        have HUS := Lib.hid (u64Store (y := ck + 2) W.drew m1 z1)
        have HMD : Hid (MemP W.drew lo0 m cb g sc ch (ws.set a x) (ck + 1) st od sb 0 0 false) := hMW.ex (S := fun _ => False) (Ex.refl _ _).drew id id id id id
        clear hi hd hne hM3 hWc hMW m1 z1 hm4
        go_wp2
        go_still_tail 8, (by kernel_rfl)
        change wpList _ _ _ _ _ W.drew
        go_wp2_with (go_at_call 33; refine halt_ ?_)
        refine Halt_.go ?_
        refine HUS.out.mono ?_
        rintro e' W4 ⟨rfl, hW4⟩
        have hM4 : MemP W4 lo0 m cb g sc ch (ws.set a x) (ck + 2) st od sb 0 0 false := by rw [hW4]; exact HMD.out.setCk (ck + 2)
        have hX4 : Ex W W4 (fun k => k = m) := by rw [hW4]; exact ((Ex.refl W _).drew).set _ _ fun _ => rfl
        have hNW : N0 < W.heap.size := by have := HI.out.size; omega
        have y04 : W4.cell? ⟨N0, 0, none⟩ = some (.pointer (some ⟨m, 0, none⟩)) := (hX4.cell (p := ⟨N0, 0, none⟩) hNW (Ne.symm hN2)).trans y0
        have HM4 := Lib.hid hM4
        have HX4 := Lib.hid hX4
        obtain ⟨m8, z8⟩ := hM4.c (i := 8) (by omega)
        have HLK := Lib.hid (lock_free muLib ⟨m, 8, none⟩ W4 m8 z8)
        have y0' := y0
        clear hW4 hM4 hX4 m8 z8 HUS HMD y0
        have HY0 := Lib.hid y0'
        clear y0'
        go_wp2_with (go_at_call 48; refine halt_ ?_)
        refine Halt_.go ?_
        refine HLK.out.mono ?_
        rintro e' W5 ⟨rfl, hW5⟩
        have hM5 : MemP W5 lo0 m cb g sc ch (ws.set a x) (ck + 2) st od sb 0 1 false := by rw [hW5]; exact HM4.out.setMu 1
        have hX5 : Ex W W5 (fun k => k = m) := by rw [hW5]; exact HX4.out.set _ _ fun _ => rfl
        have y05 : W5.cell? ⟨N0, 0, none⟩ = some (.pointer (some ⟨m, 0, none⟩)) := (hX5.cell (p := ⟨N0, 0, none⟩) hNW (Ne.symm hN2)).trans HY0.out
        have m10 : W5.cell? ⟨m, 10, none⟩ = some (.chan (some ch)) := (hM5.c (i := 10) (by omega)).1
        have hcl5 := run_close hM5.chn #[47] 0
        have HM5 := Lib.hid hM5
        have HX5 := Lib.hid hX5
        have hmk := mkChan47
        clear hW5 hM5 hX5 HLK HM4 HX4 y04
        go_wp2
        obtain ⟨W6, hW6⟩ : ∃ W6, W6 = W5.putObj ch (.chan 0 #[] true 0 0 false) := ⟨_, rfl⟩
        have hM6 : MemP W6 lo0 m cb g sc ch (ws.set a x) (ck + 2) st od sb 0 1 true := by rw [hW6]; exact HM5.out.close
        have hX6 : Ex W W6 (fun k => k = m ∨ k = ch) := by
          rw [hW6]
          have h5 := HX5.out
          exact ⟨h5.os, h5.tape, h5.output, by simpa using h5.size, fun k hk hs => (World.putObj_heap_other (fun e => hs (.inr e))).trans (h5.block k hk fun e => hs (.inl e))⟩
        have hchN : ch ≠ N0 := by have := HML.out; omega
        have y06 : W6.cell? ⟨N0, 0, none⟩ = some (.pointer (some ⟨m, 0, none⟩)) := (hX6.cell (p := ⟨N0, 0, none⟩) hNW (fun h => h.elim (fun e => hN2 e.symm) (fun e => hchN e.symm))).trans HY0.out
        rw [← hW6]
        have HM6 := Lib.hid hM6
        have HX6 := Lib.hid hX6
        have HSx : Hid (∀ W', Below W6.heap.size W6 W' → W'.cell? ⟨N0, 0, none⟩ = some (.pointer (some ⟨m, 0, none⟩)) ∧ (W'.cell? ⟨m, 10, none⟩ = some (.chan (some ch)) ∧ W'.frozen? ⟨m, 10, none⟩ = false) ∧ Below W6.heap.size W6 W') := by
          intro W' hb
          have h1 := hM6.below hb
          refine ⟨(hb.cell (p := ⟨N0, 0, none⟩) (show N0 < W6.heap.size by have := hX6.size; omega)).trans y06, h1.c (i := 10) (by omega), hb⟩
        have hSt := HSx.out W6.drew (bdrewN (Below.refl _ _) 1)
        clear hW6 hM6 hX6 hcl5 m10 y05 HM5 HX5 y06
        refine wp_region_C (S := fun W' => W'.cell? ⟨N0, 0, none⟩ = some (.pointer (some ⟨m, 0, none⟩)) ∧ (W'.cell? ⟨m, 10, none⟩ = some (.chan (some ch)) ∧ W'.frozen? ⟨m, 10, none⟩ = false) ∧ Below W6.heap.size W6 W') 4 (by kernel_rfl) hSt (fun hHeld => ?_)
        clear hSt
        refine wpAnyC_two (i := 0) (j := 1) (oi := _) (oj := _) (by kernel_rfl) rfl rfl (fun K hK => ?_) (fun K hK => ?_)
        · go_simp
          refine hK.out _ _ (HSx.out _ hHeld.2.2) (fun hHeldN => ?_)
          clear hK K hHeld
          have hHeld := hHeldN
          clear hHeldN
          (try simp only [Act.put, Array.getInternal_eq_getElem, List.getElem_toArray, List.getElem_cons_zero, List.getElem_cons_succ, List.setIfInBounds_toArray, List.set_cons_zero, List.set_cons_succ])
          refine wpAnyC_one (i := 1) (o := _) (by kernel_rfl) rfl (fun K hK => ?_)
          go_simp
          refine hK.out _ _ (HSx.out _ (hHeld.2.2.alloc (Nat.le_refl _) _)) (fun hHeldN => ?_)
          clear hK K hHeld
          have hHeld := hHeldN
          clear hHeldN
          (try simp only [Act.put, Array.getInternal_eq_getElem, List.getElem_toArray, List.getElem_cons_zero, List.getElem_cons_succ, List.setIfInBounds_toArray, List.set_cons_zero, List.set_cons_succ])
          refine wpAnyC_one (i := 2) (o := _) (by kernel_rfl) rfl (fun K hK => ?_)
          go_simp
          refine hK.out _ _ (HSx.out _ hHeld.2.2) (fun hHeldN => ?_)
          clear hK K hHeld
          have hHeld := hHeldN
          clear hHeldN
          (try simp only [Act.put, Array.getInternal_eq_getElem, List.getElem_toArray, List.getElem_cons_zero, List.getElem_cons_succ, List.setIfInBounds_toArray, List.set_cons_zero, List.set_cons_succ])
          refine wpAnyC_one (i := 3) (o := _) (by kernel_rfl) rfl (fun K hK => ?_)
          go_simp
          refine hK.out _ _ (HSx.out _ hHeld.2.2) (fun hHeldN => ?_)
          clear hK K hHeld
          have hHeld := hHeldN
          clear hHeldN
          (try simp only [Act.put, Array.getInternal_eq_getElem, List.getElem_toArray, List.getElem_cons_zero, List.getElem_cons_succ, List.setIfInBounds_toArray, List.set_cons_zero, List.set_cons_succ])
          refine wpAnyC_last (o := _) (by kernel_rfl) rfl (fun K hK => ?_)
          go_simp
          refine hK.out _ _ ?_
          clear hK K
          refine wpAnyC_done (by kernel_rfl) ?_ _
          have hsz6 := HX6.out.size
          obtain ⟨C', hC'⟩ : ∃ C', C' = W6.heap.size := ⟨_, rfl⟩
          obtain ⟨W7, hW7⟩ : ∃ W7, W7 = ((W6.alloc (.chan 0 #[] false 0 0 false)).setCell ⟨m, 10, none⟩ (.chan (some C'))).drew := ⟨_, rfl⟩
          have hmW : m < W6.heap.size := HM6.out.blk.lt.2
          have hM7 : MemP W7 lo0 m cb g sc C' (ws.set a x) (ck + 2) st od sb 0 1 false := by
            have h1 := HM6.out.below ((Below.refl W6.heap.size W6).alloc (Nat.le_refl _) (.chan 0 #[] false 0 0 false))
            have h2 := h1.newCh C' (by rw [hC']; exact heap_at _ _ _ rfl) ⟨by have := HM6.out.lch; omega, by rw [hC']; simp, by have := HM6.out.lch; omega⟩
            rw [hW7]
            exact h2.ex (S := fun _ => False) (Ex.refl _ _).drew id id id id id
          have hX7 : Ex W W7 (fun k => k = m ∨ k = ch) := by
            rw [hW7]
            exact ((HX6.out.alloc _).set _ _ fun _ => .inl rfl).drew
          have y07 : W7.cell? ⟨N0, 0, none⟩ = some (.pointer (some ⟨m, 0, none⟩)) := (hX7.cell (p := ⟨N0, 0, none⟩) hNW (fun h => h.elim (fun e => hN2 e.symm) (fun e => hchN e.symm))).trans HY0.out
          obtain ⟨m8, z8⟩ := hM7.c (i := 8) (by omega)
          have HUL := Lib.hid (unlock_held muLib ⟨m, 8, none⟩ W7 m8 z8)
          rw [← hC', ← hW7]
          have HM7 := Lib.hid hM7
          have HX7 := Lib.hid hX7
          clear hW7 hM7 hX7 m8 z8 hHeld hmW HM6 HX6
          go_wp2_with (go_at_call 49; refine halt_ ?_)
          refine Halt_.go ?_
          refine HUL.out.mono ?_
          rintro e' W8 ⟨rfl, hW8⟩
          have hM8 : MemP W8 lo0 m cb g sc C' (ws.set a x) (ck + 2) st od sb 0 0 false := by rw [hW8]; exact HM7.out.setMu 0
          have hX8 : Ex W W8 (fun k => k = m ∨ k = ch) := by rw [hW8]; exact HX7.out.set _ _ fun _ => .inl rfl
          have hbm : b ≠ m := by have := (HT2.out.lt (.inl rfl : TxS b I b)).1; omega
          have hbch : b ≠ ch := fun e => by
            obtain ⟨cs, E, fr, hh⟩ := HT2.out.cells (.inl rfl : TxS b I b)
            rw [e, HM2.out.chn] at hh
            cases hh
          have b1 : W8.cell? ⟨b, 1, none⟩ = some (.int .u64 ck) := (hX8.cell (p := ⟨b, 1, none⟩) (by have := HI.out.size; show b < _; omega) (fun h => h.elim hbm hbch)).trans y1
          have HM8 := Lib.hid hM8
          have HX8 := Lib.hid hX8
          clear hW8 hM8 hX8 HUL HM7 HX7 y07 y1 hmk
          have hDl : D < W.heap.size := (Array.getElem?_eq_some_iff.1 HD.out).1
          have hm4 := HML.out
          have hD8 : W8.heap[D]? = some (.deferred (some [])) := (HX8.out.block D hDl (fun h => h.elim (fun e => by omega) (fun e => by omega))).trans HD.out
          have HFM : Hid (MemR (W8.putObj D (.deferred none)) lo0 m cb g sc C' (ws.set a x) (ck + 2) st od sb) := by
            have hx9 : Ex W8 (W8.putObj D (.deferred none)) (fun k => k = D) := ⟨rfl, rfl, rfl, by simp, fun k hk h => World.putObj_heap_other h⟩
            exact (HM8.out.ex hx9 (by omega) (by omega) (by omega) (by omega) (by omega)).toR
          have HFX : Hid (Ex w (W8.putObj D (.deferred none)) (fun k => TxS b I k ∨ k = m ∨ k = g ∨ k = ch)) := by
            have h1 := HB1.out
            have h2 := HX2.out
            have h3 := HB3.out
            have h4 := HI.out
            have h5 := HX8.out
            have hn := HN0.out
            have hs := HS1.out
            refine ⟨h5.os.trans (h4.os.trans (h3.os.trans (h2.os.trans h1.os))), h5.tape.trans (h4.tape.trans (h3.tape.trans (h2.tape.trans h1.tape))), h5.output.trans (h4.output.trans (h3.output.trans (h2.output.trans h1.output))), ?_, fun k hk hS => ?_⟩
            · have := h5.size
              have := h4.size
              simp
              omega
            · simp only [not_or] at hS
              have e1 := World.putObj_heap_other (w := W8) (r := D) (k := k) (o := .deferred none) (by omega)
              have e2 := h5.block k (by omega) (fun h => h.elim hS.2.1 hS.2.2.2)
              have e3 := h4.blk k (by omega) hS.2.2.1
              have e4 := h3.block k (by omega)
              have e5 := h2.block k (by omega) (fun h => h.elim hS.1 hS.2.1)
              have e6 := h1.block k hk
              exact e1.trans (e2.trans (e3.trans (e4.trans (e5.trans e6))))
          clear hm4
          rcases hev with rfl | rfl
          all_goals
            go_wp2
            refine ⟨by simp, .inl ⟨_, _, rfl, run_takeDeferred hD8, ?_⟩⟩
            exact ⟨_, results_tmp2 rfl _ _ _, .inr ⟨HQ.out, rfl, _, HFM.out, HFX.out⟩⟩
        · go_simp
          refine hK.out _ _ (HSx.out _ (hHeld.2.2.alloc (Nat.le_refl _) _)) (fun hHeldN => ?_)
          clear hK K hHeld
          have hHeld := hHeldN
          clear hHeldN
          (try simp only [Act.put, Array.getInternal_eq_getElem, List.getElem_toArray, List.getElem_cons_zero, List.getElem_cons_succ, List.setIfInBounds_toArray, List.set_cons_zero, List.set_cons_succ])
          refine wpAnyC_one (i := 0) (o := _) (by kernel_rfl) rfl (fun K hK => ?_)
          go_simp
          refine hK.out _ _ (HSx.out _ hHeld.2.2) (fun hHeldN => ?_)
          clear hK K hHeld
          have hHeld := hHeldN
          clear hHeldN
          (try simp only [Act.put, Array.getInternal_eq_getElem, List.getElem_toArray, List.getElem_cons_zero, List.getElem_cons_succ, List.setIfInBounds_toArray, List.set_cons_zero, List.set_cons_succ])
          refine wpAnyC_one (i := 2) (o := _) (by kernel_rfl) rfl (fun K hK => ?_)
          go_simp
          refine hK.out _ _ (HSx.out _ hHeld.2.2) (fun hHeldN => ?_)
          clear hK K hHeld
          have hHeld := hHeldN
          clear hHeldN
          (try simp only [Act.put, Array.getInternal_eq_getElem, List.getElem_toArray, List.getElem_cons_zero, List.getElem_cons_succ, List.setIfInBounds_toArray, List.set_cons_zero, List.set_cons_succ])
          refine wpAnyC_one (i := 3) (o := _) (by kernel_rfl) rfl (fun K hK => ?_)
          go_simp
          refine hK.out _ _ (HSx.out _ hHeld.2.2) (fun hHeldN => ?_)
          clear hK K hHeld
          have hHeld := hHeldN
          clear hHeldN
          (try simp only [Act.put, Array.getInternal_eq_getElem, List.getElem_toArray, List.getElem_cons_zero, List.getElem_cons_succ, List.setIfInBounds_toArray, List.set_cons_zero, List.set_cons_succ])
          refine wpAnyC_last (o := _) (by kernel_rfl) rfl (fun K hK => ?_)
          go_simp
          refine hK.out _ _ ?_
          clear hK K
          refine wpAnyC_done (by kernel_rfl) ?_ _
          have hsz6 := HX6.out.size
          obtain ⟨C', hC'⟩ : ∃ C', C' = W6.heap.size := ⟨_, rfl⟩
          obtain ⟨W7, hW7⟩ : ∃ W7, W7 = ((W6.alloc (.chan 0 #[] false 0 0 false)).setCell ⟨m, 10, none⟩ (.chan (some C'))).drew := ⟨_, rfl⟩
          have hmW : m < W6.heap.size := HM6.out.blk.lt.2
          have hM7 : MemP W7 lo0 m cb g sc C' (ws.set a x) (ck + 2) st od sb 0 1 false := by
            have h1 := HM6.out.below ((Below.refl W6.heap.size W6).alloc (Nat.le_refl _) (.chan 0 #[] false 0 0 false))
            have h2 := h1.newCh C' (by rw [hC']; exact heap_at _ _ _ rfl) ⟨by have := HM6.out.lch; omega, by rw [hC']; simp, by have := HM6.out.lch; omega⟩
            rw [hW7]
            exact h2.ex (S := fun _ => False) (Ex.refl _ _).drew id id id id id
          have hX7 : Ex W W7 (fun k => k = m ∨ k = ch) := by
            rw [hW7]
            exact ((HX6.out.alloc _).set _ _ fun _ => .inl rfl).drew
          have y07 : W7.cell? ⟨N0, 0, none⟩ = some (.pointer (some ⟨m, 0, none⟩)) := (hX7.cell (p := ⟨N0, 0, none⟩) hNW (fun h => h.elim (fun e => hN2 e.symm) (fun e => hchN e.symm))).trans HY0.out
          obtain ⟨m8, z8⟩ := hM7.c (i := 8) (by omega)
          have HUL := Lib.hid (unlock_held muLib ⟨m, 8, none⟩ W7 m8 z8)
          rw [← hC', ← hW7]
          have HM7 := Lib.hid hM7
          have HX7 := Lib.hid hX7
          clear hW7 hM7 hX7 m8 z8 hHeld hmW HM6 HX6
          go_wp2_with (go_at_call 49; refine halt_ ?_)
          refine Halt_.go ?_
          refine HUL.out.mono ?_
          rintro e' W8 ⟨rfl, hW8⟩
          have hM8 : MemP W8 lo0 m cb g sc C' (ws.set a x) (ck + 2) st od sb 0 0 false := by rw [hW8]; exact HM7.out.setMu 0
          have hX8 : Ex W W8 (fun k => k = m ∨ k = ch) := by rw [hW8]; exact HX7.out.set _ _ fun _ => .inl rfl
          have hbm : b ≠ m := by have := (HT2.out.lt (.inl rfl : TxS b I b)).1; omega
          have hbch : b ≠ ch := fun e => by
            obtain ⟨cs, E, fr, hh⟩ := HT2.out.cells (.inl rfl : TxS b I b)
            rw [e, HM2.out.chn] at hh
            cases hh
          have b1 : W8.cell? ⟨b, 1, none⟩ = some (.int .u64 ck) := (hX8.cell (p := ⟨b, 1, none⟩) (by have := HI.out.size; show b < _; omega) (fun h => h.elim hbm hbch)).trans y1
          have HM8 := Lib.hid hM8
          have HX8 := Lib.hid hX8
          clear hW8 hM8 hX8 HUL HM7 HX7 y07 y1 hmk
          have hDl : D < W.heap.size := (Array.getElem?_eq_some_iff.1 HD.out).1
          have hm4 := HML.out
          have hD8 : W8.heap[D]? = some (.deferred (some [])) := (HX8.out.block D hDl (fun h => h.elim (fun e => by omega) (fun e => by omega))).trans HD.out
          have HFM : Hid (MemR (W8.putObj D (.deferred none)) lo0 m cb g sc C' (ws.set a x) (ck + 2) st od sb) := by
            have hx9 : Ex W8 (W8.putObj D (.deferred none)) (fun k => k = D) := ⟨rfl, rfl, rfl, by simp, fun k hk h => World.putObj_heap_other h⟩
            exact (HM8.out.ex hx9 (by omega) (by omega) (by omega) (by omega) (by omega)).toR
          have HFX : Hid (Ex w (W8.putObj D (.deferred none)) (fun k => TxS b I k ∨ k = m ∨ k = g ∨ k = ch)) := by
            have h1 := HB1.out
            have h2 := HX2.out
            have h3 := HB3.out
            have h4 := HI.out
            have h5 := HX8.out
            have hn := HN0.out
            have hs := HS1.out
            refine ⟨h5.os.trans (h4.os.trans (h3.os.trans (h2.os.trans h1.os))), h5.tape.trans (h4.tape.trans (h3.tape.trans (h2.tape.trans h1.tape))), h5.output.trans (h4.output.trans (h3.output.trans (h2.output.trans h1.output))), ?_, fun k hk hS => ?_⟩
            · have := h5.size
              have := h4.size
              simp
              omega
            · simp only [not_or] at hS
              have e1 := World.putObj_heap_other (w := W8) (r := D) (k := k) (o := .deferred none) (by omega)
              have e2 := h5.block k (by omega) (fun h => h.elim hS.2.1 hS.2.2.2)
              have e3 := h4.blk k (by omega) hS.2.2.1
              have e4 := h3.block k (by omega)
              have e5 := h2.block k (by omega) (fun h => h.elim hS.1 hS.2.1)
              have e6 := h1.block k hk
              exact e1.trans (e2.trans (e3.trans (e4.trans (e5.trans e6))))
          clear hm4
          rcases hev with rfl | rfl
          all_goals
            go_wp2
            refine ⟨by simp, .inl ⟨_, _, rfl, run_takeDeferred hD8, ?_⟩⟩
            exact ⟨_, results_tmp2 rfl _ _ _, .inr ⟨HQ.out, rfl, _, HFM.out, HFX.out⟩⟩
    · have HSSN := Lib.hid (HSS.out.2.2 (fun h => hcs h.symm))
      have hg : 0 < gk := HSS.out.1.resolve_left fun h => hcs h.symm
      have HNE := Lib.hid hcs
      have HMd : Hid (MemP wr.drew lo0 m cb g sc ch ws ck st od sb 0 0 false) := HMr.out.ex (S := fun _ => False) (Ex.refl _ _).drew id id id id id
      have HTd : Hid (TxR wr.drew lo b m I s' R (some ((a : Int), x)) e ov) := HTr.out.drewN 1
      have HXd := Lib.hid HXr.out.drew
      have HEV3 : Hid (ck = 0 ∨ ck = 2 ∨ ck = 4) := hev.elim .inl fun h => .inr (.inl h)
      have HEV := Lib.hid hev
      have HW6 : Hid (∀ W : World, W = wr.drew → True) := fun _ _ => trivial
      have hnb : (ck == s') = false := by simpa using hcs
      have HCS := Lib.hid hcs
      clear hev hcs hk1
      go_wp2
      go_still_tail 12, (by kernel_rfl)
      change wpList _ _ _ _ _ wr.drew
      go_wp2_with (go_at_call 44; refine halt_ ?_)
      refine Halt_.go ?_
      refine (u64CasM wr.drew HC1.out HZ1.out HCS.out).mono ?_
      rintro e' w2 ⟨rfl, rfl⟩
      clear HTr HMr HXr bx c1 HC1 HZ1 HSS hnb
      have HV := Lib.hid (txValid wr.drew HMd.out.toR HTd.out hwl (by omega) HR.out HEV3.out)
      generalize wr.drew = w6 at *
      clear HW6
      go_wp2_with (go_at_call 45; refine halt_ ?_)
      refine Halt_.go ?_
      refine HV.out.mono ?_
      rintro e' w7 (⟨ho, rfl, hb⟩ | ⟨ho, rfl, ht, hx⟩)
      · have HO := Lib.hid ho
        have HM7 := Lib.hid (HMd.out.below hb).toR
        have HX7 := Lib.hid (HXd.out.trans (Ex.of_below (S := TxS b I) hb) fun k _ h => h)
        clear ho hb HV HMd HTd HXd
        go_wp2
        refine ⟨_, results_tmp2 rfl _ _ _, .inl ⟨fun h => HNE.out (h.trans HSSN.out.symm), HO.out, rfl, HM7.out, ?_⟩⟩
        exact (Ex.of_below (S := TxS b I) HB1.out).trans HX7.out fun k _ h => h
      · have HO := Lib.hid ho
        have hx7 : Ex w6 w7 (TxS b I) := hx.grow fun k hk => .inl hk
        have HT7 := Lib.hid ht
        have HM7 := Lib.hid ((HMd.out.toR.tx hl HTd.out hx7).toP)
        have HX7 := Lib.hid (HXd.out.trans hx7 fun k _ h => h)
        clear ho ht hx hx7 HV HMd HTd HXd
        go_wp2
        go_roundg 0
        case measure => exact hg
        case rel => exact ⟨ck, .inl rfl, fun _ => .inr HO.out, fun h => absurd rfl h, HT7, HM7, HX7⟩
end
end Go.Proofs.YtomcobcmjocapaaGreatDoor
