/- otherwise: has a cell another word than was got? -/
import Derived.Test.YtomcobcmjocapaaGreatDoorL
import Derived.Test.YtomcobcmjocapaaGreatDoorL5
import Derived.Shelf.RegionOpen
import Derived.Sort.QuietIn
import Derived.Sort.QuietTacIn
namespace Go.Proofs.YtomcobcmjocapaaGreatDoor
open Go.RowKit Go.Shelf
attribute [local go_sem] Oper.semAt_some
theorem ReadsR.kept {w w' : World} {lo rd : Nat} {vR : Value} {R : List (Int × Int)} (h : ReadsR w lo rd vR R) (hk : ∀ k, (k = rd ∨ vR.ownBlock = some k) → w'.heap[k]? = w.heap[k]?) : ReadsR w' lo rd vR R := ⟨h.blk.kept (hk _ (.inl rfl)), own_keep h.row fun k e => hk k (.inr e)⟩
theorem ReadsR.lt {w : World} {lo rd : Nat} {vR : Value} {R : List (Int × Int)} (h : ReadsR w lo rd vR R) {k : Nat} (hk : k = rd ∨ vR.ownBlock = some k) : lo ≤ k ∧ k < w.heap.size := by
  rcases hk with rfl | e
  · exact h.blk.lt
  · exact World.ownsRow.lt h.row k e
theorem flat_at {R : List (Int × Int)} : ∀ {j : Nat} {p : Int × Int}, R[j]? = some p → (R.flatMap pcells)[j * 2]? = some (.int .u64 p.1) ∧ (R.flatMap pcells)[j * 2 + 1]? = some (.int .u64 p.2) := by
  induction R with
  | nil => intro j p h; simp at h
  | cons q R ih =>
    intro j p h
    cases j with
    | zero => simp at h; subst h; exact ⟨rfl, rfl⟩
    | succ j =>
      simp at h
      obtain ⟨h1, h2⟩ := ih h
      have e1 : (j + 1) * 2 = j * 2 + 2 := by omega
      rw [e1]
      exact ⟨h1, h2⟩
def othB (R : List (Int × Int)) (ws : List Int) : Bool := R.any fun p => ws.getD p.1.toNat 0 != p.2
set_option maxRecDepth 100000 in
set_option maxHeartbeats 6400000 in
theorem otherwise_any {lo lo2 m cb g rd b : Nat} {ws : List Int} {vR : Value} {R : List (Int × Int)} (w : World) (hc : CelR w lo cb g ws) (m0 : w.cell? ⟨m, 0, none⟩ = some (.pointer (some ⟨cb, 0, none⟩)))
    (c0 : w.cell? ⟨b, 0, none⟩ = some (.pointer (some ⟨m, 0, none⟩))) (c2 : w.cell? ⟨b, 2, none⟩ = some (.pointer (some ⟨rd, 0, none⟩))) (hr : ReadsR w lo2 rd vR R)
    (hR : ∀ p ∈ R, ∃ a : Nat, p.1 = a ∧ a < ws.length) (hwl : ws.length ≤ 65536) (hRl : R.length ≤ 65536) :
    Calls Tryz.prog 51 #[.pointer (some ⟨b, 0, none⟩)] w fun e w' => e = .returned (.bool (othB R ws)) ∧ Below w.heap.size w w' := by
  refine (callsIn_wide (n := 6)).1 ?_
  refine callsIn_of_wp_marks Tryz.func51 rfl trivial ?_ rfl
  simp only [Tryz.ntmps51, List.size_toArray, List.length_cons, List.length_nil, Nat.reduceAdd, Nat.reduceSub, Array.replicate_succ, Array.replicate_zero, List.push_toArray, List.append_toArray, List.nil_append, List.cons_append]
  have hbl : b < w.heap.size := World.block_lt_of_cell? w ⟨b, 0, none⟩ c0
  have hml : m < w.heap.size := World.block_lt_of_cell? w ⟨m, 0, none⟩ m0
  obtain ⟨wb, hwb⟩ : ∃ wb, wb = (w.alloc (.cells #[.pointer (some ⟨b, 0, none⟩)] 72)).alloc (.cells #[.bool false] 4) := ⟨_, rfl⟩
  have hbwb : Below w.heap.size w wb := by rw [hwb]; exact ((Below.refl _ w).alloc (Nat.le_refl _) _).alloc (by simp) _
  have hwbs : wb.heap.size = w.heap.size + 2 := by rw [hwb]; simp
  have hk0 : wb.heap[w.heap.size]? = some (.cells #[.pointer (some ⟨b, 0, none⟩)] 72 (0, 0)) := by rw [hwb]; exact (Go.heap_alloc_old _ _ (by simp)).trans (heap_at _ _ _ rfl)
  have hk1 : wb.heap[w.heap.size + 1]? = some (.cells #[.bool false] 4 (0, 0)) := by rw [hwb]; exact heap_at _ _ _ (by simp)
  have bx : wb.cell? ⟨w.heap.size, 0, none⟩ = some (.pointer (some ⟨b, 0, none⟩)) := cell_of_row wb _ 0 _ _ _ hk0
  have d2 := (hbwb.cell (p := ⟨b, 2, none⟩) hbl).trans c2
  have HWB := Lib.hid hwb
  have HB := Lib.hid hbwb
  have HK1 := Lib.hid hk1
  clear hwb hbwb hk0 hk1
  gi_wp2
  rw [← HWB.out]
  refine ⟨trivial, callsIn_wide.2 ((readsAll rd wb).mono ?_)⟩
  rintro e w3 ⟨rfl, hw3⟩
  have hb3 : Below wb.heap.size wb w3 := by rw [hw3]; exact ((Below.refl _ wb).alloc (Nat.le_refl _) _).alloc (by simp) _
  have hs3 : w3.heap.size = wb.heap.size + 2 := by rw [hw3]; simp [allW]
  have k2 : w3.heap[wb.heap.size]? = some (.cells #[.pointer (some ⟨rd, 0, none⟩)] 75 (0, 0)) := by rw [hw3]; exact (Go.heap_alloc_old _ _ (by simp)).trans (heap_at _ _ _ rfl)
  have k3 : w3.heap[wb.heap.size + 1]? = some (.cells #[.func (.func 83) #[] #[.pointer (some ⟨wb.heap.size, 0, none⟩)]] 125 (0, 0)) := by rw [hw3]; exact heap_at _ _ _ (by simp)
  have HW3 := Lib.hid hw3
  clear hw3
  gi_wp2
  obtain ⟨N0, hN0⟩ : ∃ N0, N0 = w.heap.size := ⟨_, rfl⟩
  obtain ⟨n₁, hn1⟩ : ∃ n₁, n₁ = w3.heap.size := ⟨_, rfl⟩
  have e2 : wb.heap.size = N0 + 2 := by omega
  have e3 : n₁ = N0 + 4 := by omega
  rw [e2] at k2 k3
  simp only [← hN0]
  have hb03 : Below w.heap.size w w3 := HB.out.trans (hb3.mono HB.out.size)
  have k1 : w3.heap[N0 + 1]? = some (.cells #[.bool false] 4 (0, 0)) := (hb3.block (N0 + 1) (by omega)).trans (by rw [hN0]; exact HK1.out)
  have bx3 : w3.cell? ⟨N0, 0, none⟩ = some (.pointer (some ⟨b, 0, none⟩)) := by rw [hN0]; exact (hb3.cell (p := ⟨w.heap.size, 0, none⟩) (show w.heap.size < wb.heap.size by omega)).trans bx
  have hcl : ∀ (A : Option Addr) (c : Nat), vR = .slice A R.length c → ∀ W, Below w3.heap.size w3 W → Calls Tryz.prog 83 #[.pointer (some ⟨N0 + 2, 0, none⟩)] W fun e W' => e = .returned (.slice A R.length R.length) ∧ ∃ k, W' = W.drewN k := by
    intro A c hv W hW
    have hbW := hb03.trans (hW.mono hb03.size)
    refine readsAll1 W (hr.kept fun k hk => hbW.block k (hr.lt hk).2) (N0 + 2) ?_ A c hv
    rw [hW.cell (p := ⟨N0 + 2, 0, none⟩) (show N0 + 2 < w3.heap.size by omega)]
    exact cell_of_row w3 _ 0 _ _ _ k2
  obtain ⟨A, c, hvR⟩ := own_shape hr.row
  obtain ⟨el, hel⟩ := en_list R
  obtain ⟨ob, hob⟩ : ∃ ob, 0 < R.length → A = some ⟨ob, 0, none⟩ ∧ (ob < n₁ ∧ ob ≠ N0 + 1 ∧ ob ≠ N0 + 1) ∧ ∀ j p, R[j]? = some p → w3.cell? ⟨ob, j * 2, none⟩ = some (.int .u64 p.1) ∧ w3.cell? ⟨ob, j * 2 + 1, none⟩ = some (.int .u64 p.2) := by
    by_cases h0 : 0 < R.length
    · have hrow := hr.row
      rw [hvR] at hrow
      obtain ⟨g', c', hv, hbg, hg⟩ := hrow.form h0
      injection hv with hv1 _ hv3
      subst hv1 hv3
      refine ⟨g', fun _ => ⟨rfl, ⟨by omega, by omega, by omega⟩, fun j p hp => ?_⟩⟩
      obtain ⟨q1, q2⟩ := flat_at hp
      have hj : j < R.length := (List.getElem?_eq_some_iff.1 hp).1
      have hlen := pcells_len R
      refine ⟨(hb03.cell (p := ⟨g', j * 2, none⟩) hg).trans ?_, (hb03.cell (p := ⟨g', j * 2 + 1, none⟩) hg).trans ?_⟩
      · rw [hrow.cellAt (j * 2) (by omega), q1]
      · rw [hrow.cellAt (j * 2 + 1) (by omega), q2]
    · exact ⟨0, fun h => absurd h h0⟩
  have hseq := over_stops (R := R) 5 (by omega) (N0 + 3) 83 (N0 + 2) n₁ (N0 + 1) (N0 + 1) ob hRl el hel w3 (by omega) (enters_of Tryz.func83 (by kernel_rfl) rfl) A (cell_of_row w3 _ 0 _ _ _ k3) (by omega) (hcl A c hvR) hob
  have HSEQ := Lib.hid hseq
  have q1 : n₁ ≤ w3.heap.size := by omega
  have q2 : w3.heap.size ≤ n₁ := by omega
  have q3 : w.heap.size ≤ N0 := by omega
  have q4 : N0 ≤ w.heap.size := by omega
  have HB03 := Lib.hid hb03
  have HEL := Lib.hid hel
  have HK := Lib.hid k1
  clear hseq hcl hob hN0 hn1 hb03 hel k1 k2 k3 HW3 HWB HK1 bx d2 hb3 hs3 hwbs HB
  refine wpIn_rangeFunc_ownH rfl (by omega) (gf := 74) (lb := #[.pointer (some ⟨N0 + 3, 0, none⟩)]) rfl trivial (enters_of Tryz.func74 (by kernel_rfl) rfl)
    HSEQ.out (fun h k => h.trans k) (fun W l o o' hl ho _ _ => ?kb) (Below.refl _ _) (fun _ => rfl)
    (fun pre W => Below n₁ w3 W ∧ ∀ x ∈ pre, ws.getD x.1.2.1.toNat 0 = x.1.2.2)
    (fun c pre W => c = .ret ∧ Below N0 w3 W ∧ W.cell? ⟨N0 + 1, 0, none⟩ = some (.bool true) ∧ othB R ws = true)
    (fun s W W' row hi hg hr => ?own)
    (fun c s W W' row hi hg hr => ?ownx)
    ?start
    (fun x a' W => ∃ cbk, n₁ ≤ cbk ∧ W.heap[cbk]? = some (.cells #[.int .u64 x.1.2.1, .int .u64 x.1.2.2] 102 (0, 0)) ∧ a' = { tmps := #[.pointer (some ⟨b, 0, none⟩), .pointer (some ⟨N0, 0, none⟩), .pointer (some ⟨N0 + 1, 0, none⟩), undef, .pointer (some ⟨cbk, 0, none⟩), undef, undef, .pointer (some ⟨b, 0, none⟩), .pointer (some ⟨b, 0, none⟩), .pointer (some ⟨b, 2, none⟩), .pointer (some ⟨rd, 0, none⟩), .func (.func 74) #[] #[.pointer (some ⟨N0 + 3, 0, none⟩)], .int .i64 (x.1.1 : Int), .agg #[.int .u64 x.1.2.1, .int .u64 x.1.2.2], undef, undef, undef, undef, undef, undef, undef, undef, undef, undef, undef, undef, undef, undef, undef, undef, undef], defers := [] })
    (fun x a' s W W' row hi hg hr => ?ownA)
    (fun l pre x W K hi hK => ?assign)
    (fun l pre x a' W hl hrec hi hA hlt => ?body)
    (fun D xs W hD hS hi hd => ?done)
    (fun D c pre W hD hS hi hd => ?stop)
  case kb => exact ⟨fun k hk _ _ => World.putObj_heap_other (by omega), by simp⟩
  case own =>
    have hne : ∀ k, k < n₁ → some k ≠ row := fun k hk e => by have := (hr k e.symm).1; omega
    exact ⟨⟨hg.os.trans hi.1.os, hg.tape.trans hi.1.tape, hg.output.trans hi.1.output, Nat.le_trans hi.1.size hg.size, fun k hk => (hg.block k (Nat.lt_of_lt_of_le (by omega) hi.1.size) (hne k hk)).trans (hi.1.block k hk)⟩, hi.2⟩
  case ownx =>
    have hne : ∀ k, k < n₁ → some k ≠ row := fun k hk e => by have := (hr k e.symm).1; omega
    obtain ⟨h1, h2, h3, h4⟩ := hi
    have h5 := h2.size
    exact ⟨h1, ⟨hg.os.trans h2.os, hg.tape.trans h2.tape, hg.output.trans h2.output, Nat.le_trans h2.size hg.size, fun k hk => (hg.block k (by omega) (hne k (by omega))).trans (h2.block k hk)⟩, (World.cell?_of_block (hg.block (N0 + 1) (by omega) (hne _ (by omega)))).trans h3, h4⟩
  case start => exact ⟨Below.refl _ _, fun x hx => by cases hx⟩
  case ownA =>
    obtain ⟨cbk, h1, h2, h3⟩ := hi
    refine ⟨cbk, h1, (hg.block cbk (Array.getElem?_eq_some_iff.1 h2).1 (fun e => ?_)).trans h2, h3⟩
    obtain ⟨_, o, ho, hoc⟩ := hr cbk e.symm
    have h4 : o = Obj.cells #[.int .u64 x.1.2.1, .int .u64 x.1.2.2] 102 (0, 0) := (Option.some.inj (h2.symm.trans ho)).symm
    rw [h4] at hoc
    simp [Obj.isCells] at hoc
  case assign =>
    have hs := hi.1.size
    simp only [enEnc]
    gi_wp2
    refine hK _ _ (KeepsFrom.of_grownBy (World.grownBy_alloc W _ none) (fun j h => by cases h)) ⟨fun k hk _ _ => Below.heap_alloc _ _ _ (by omega), by simp⟩ ⟨hi.1.alloc (by omega) _, hi.2⟩ ⟨W.heap.size, by omega, heap_at _ _ _ rfl, rfl⟩
  case body =>
    obtain ⟨cbk, hc1, hc2, rfl⟩ := hA
    have hp := x.2.resolve_right (by omega)
    obtain ⟨⟨i, p⟩, hx⟩ := x
    simp only at hp hc2 ⊢
    obtain ⟨a, ha, hal⟩ := hR p (List.mem_of_getElem? hp)
    obtain ⟨p1, p2⟩ := p
    simp only at ha hc2 ⊢
    subst ha
    have hws : ws[a]? = some ws[a] := by simp [hal]
    obtain ⟨v, hv⟩ : ∃ v, v = ws[a] := ⟨_, rfl⟩
    rw [← hv] at hws
    have hbw : Below w.heap.size w W := HB03.out.trans (hi.1.mono (by omega))
    have y0 : W.cell? ⟨N0, 0, none⟩ = some (.pointer (some ⟨b, 0, none⟩)) := (hi.1.cell (p := ⟨N0, 0, none⟩) (show N0 < n₁ by omega)).trans bx3
    have y1 : W.cell? ⟨b, 0, none⟩ = some (.pointer (some ⟨m, 0, none⟩)) := (hbw.cell (p := ⟨b, 0, none⟩) hbl).trans c0
    have y2 : W.cell? ⟨m, 0, none⟩ = some (.pointer (some ⟨cb, 0, none⟩)) := (hbw.cell (p := ⟨m, 0, none⟩) hml).trans m0
    have y3 : W.cell? ⟨cbk, 0, none⟩ = some (.int .u64 (a : Int)) := by rw [cell_of_row W cbk 0 _ 102 (0, 0) hc2]; rfl
    have y4 : W.cell? ⟨cbk, 1, none⟩ = some (.int .u64 p2) := by rw [cell_of_row W cbk 1 _ 102 (0, 0) hc2]; rfl
    have hcW : CelR W lo cb g ws := hc.kept (hbw.block cb hc.lt.2.1) (hbw.block g hc.lt.2.2.2)
    have HCL : Hid (∀ n, Calls Tryz.prog 68 #[.pointer (some ⟨cb, 0, none⟩), .int .u64 a] (W.drewN n) fun e w' => e = .returned (.tuple #[.int .u64 v, .int .i64 0]) ∧ w' = W.drewN n) := fun n => celLoad (W.drewN n) (hcW.kept rfl rfl) a v hws hwl
    have hmx : Tryz.prog.follows Departure.mixedOrders = true := by rfl
    have HI := Lib.hid hi
    have HWS := Lib.hid hws
    have HP := Lib.hid hp
    clear hc2 hp hws hcW hbw hi hv
    gi_wp2
    refine quiet_in_round l _ hmx (by kernel_rfl) (by rintro ⟨a, w, h⟩; exact h) (by kernel_rfl) ?_
    repeat (quiet_step ((go_at_call 68; exact Calls.quiet_of_same (HCL.out _))))
    refine wpQuiet_nil ?_
    intro _ hw'
    obtain ⟨nq, hw''⟩ := hw'
    subst hw''
    have y4' : (W.drewN nq).cell? ⟨cbk, 1, none⟩ = some (.int .u64 p2) := y4
    have hr1 : (W.drewN nq).heap[N0 + 1]? = some (.cells #[.bool false] 4 (0, 0)) := (HI.out.1.block (N0 + 1) (by omega)).trans HK.out
    have z1 : (W.drewN nq).cell? ⟨N0 + 1, 0, none⟩ = some (.bool false) := cell_of_row _ _ 0 _ _ _ hr1
    have z2 : (W.drewN nq).frozen? ⟨N0 + 1, 0, none⟩ = false := Boxed.frozen hr1
    have hgd : ws.getD a 0 = v := by simp [List.getD, HWS.out]
    have hbW : Below N0 w3 W := HI.out.1.mono (by omega)
    by_cases hvp : v = p2
    · subst hvp
      clear hr1 z1 z2
      gi_wp2
      refine ⟨⟨Nat.le_refl _, fun k o _ hk _ => hk⟩, ⟨fun _ _ _ _ => rfl, Nat.le_refl _⟩, bdrewN HI.out.1 nq, fun y hy => ?_⟩
      rcases List.mem_append.1 hy with hy | hy
      · exact HI.out.2 y hy
      · obtain rfl := List.mem_singleton.1 hy
        simpa using hgd
    · have hvb : (v == p2) = false := by simpa using hvp
      clear hr1
      gi_wp2
      have hoth : othB R ws = true := by
        unfold othB
        rw [List.any_eq_true]
        refine ⟨((a : Int), p2), List.mem_of_getElem? HP.out, ?_⟩
        simp only [Int.toNat_natCast, hgd]
        simpa using hvp
      have hset : ∀ k, k ≠ N0 + 1 → ((W.drewN nq).setCell ⟨N0 + 1, 0, none⟩ (.bool true)).heap[k]? = W.heap[k]? := fun k hk => Below.heap_setCell (W.drewN nq) ⟨N0 + 1, 0, none⟩ _ k hk
      refine ⟨⟨by simp, fun k o hB hk _ => (hset k (by omega)).trans hk⟩, rfl, ⟨hbW.os, hbW.tape, hbW.output, by simpa using hbW.size, fun k hk => (hset k (by omega)).trans (hbW.block k hk)⟩, ?_, hoth⟩
      exact World.cell?_setCell_same _ _ _ z1
  case done =>
    obtain rfl := hS
    have hbW : Below w.heap.size w W := HB03.out.trans (hi.1.mono (by omega))
    have hr1 : W.heap[N0 + 1]? = some (.cells #[.bool false] 4 (0, 0)) := (hi.1.block (N0 + 1) (by omega)).trans HK.out
    have z1 : W.cell? ⟨N0 + 1, 0, none⟩ = some (.bool false) := cell_of_row _ _ 0 _ _ _ hr1
    have z2 : W.frozen? ⟨N0 + 1, 0, none⟩ = false := Boxed.frozen hr1
    have HI := Lib.hid hi
    have HD := Lib.hid hd
    have hD2 : (W.setCell ⟨N0 + 1, 0, none⟩ (.bool false)).heap[D]? = some (.deferred (some [])) := (Below.heap_setCell W ⟨N0 + 1, 0, none⟩ _ D (show D ≠ N0 + 1 by omega)).trans hd
    have z3 : (W.setCell ⟨N0 + 1, 0, none⟩ (.bool false)).cell? ⟨N0 + 1, 0, none⟩ = some (.bool false) := World.cell?_setCell_same _ _ _ z1
    clear hi hd hr1
    gi_wp2
    refine ⟨by simp, .inl ⟨_, _, rfl, run_takeDeferred hD2, ?_⟩⟩
    have z4 : ((W.setCell ⟨N0 + 1, 0, none⟩ (.bool false)).putObj D (.deferred none)).cell? ⟨N0 + 1, 0, none⟩ = some (.bool false) := (World.cell?_of_block (World.putObj_heap_other (show N0 + 1 ≠ D by omega))).trans z3
    refine ⟨.bool false, ?res, ?fin⟩
    case res =>
      simp [results, Tryz.results51, go_sem, z4]
    case fin =>
      refine ⟨?_, hbW.os, hbW.tape, hbW.output, by simpa using hbW.size, fun k hk => (World.putObj_heap_other (show k ≠ D by have := hbW.size; omega)).trans ((Below.heap_setCell W ⟨N0 + 1, 0, none⟩ _ k (show k ≠ N0 + 1 by omega)).trans (hbW.block k hk))⟩
      have hoth : othB R ws = false := by
        unfold othB
        rw [List.any_eq_false]
        intro p hp
        obtain ⟨k, hk⟩ := List.mem_iff_getElem?.1 hp
        have hkl : k < R.length := (List.getElem?_eq_some_iff.1 hk).1
        have h1 := (el k).2.resolve_right (by omega)
        rw [HEL.out k hkl, hk] at h1
        have h2 : p = (el k).1.2 := by injection h1
        have h3 := HI.out.2 (el k) (List.mem_map.2 ⟨k, by simpa using hkl, rfl⟩)
        rw [h2, h3]
        simp
      rw [hoth]
  case stop =>
    obtain ⟨rfl, hb0, hcT, hoth⟩ := hi
    have hbW : Below w.heap.size w W := HB03.out.trans (hb0.mono (by omega))
    have HD := Lib.hid hd
    have HO := Lib.hid hoth
    clear hd hoth
    gi_wp2
    refine ⟨by simp, .inl ⟨_, _, rfl, run_takeDeferred HD.out, ?_⟩⟩
    have z4 : (W.putObj D (.deferred none)).cell? ⟨N0 + 1, 0, none⟩ = some (.bool true) := (World.cell?_of_block (World.putObj_heap_other (show N0 + 1 ≠ D by omega))).trans hcT
    refine ⟨.bool true, ?res, ?fin⟩
    case res =>
      simp [results, Tryz.results51, go_sem, z4]
    case fin =>
      exact ⟨by rw [HO.out], hbW.os, hbW.tape, hbW.output, by simpa using hbW.size, fun k hk => (World.putObj_heap_other (show k ≠ D by have := hbW.size; omega)).trans (hbW.block k hk)⟩
end Go.Proofs.YtomcobcmjocapaaGreatDoor
