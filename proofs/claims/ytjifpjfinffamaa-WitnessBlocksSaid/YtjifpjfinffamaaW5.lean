/- Walk: graph.far comes to the distances. -/
import Derived.Test.YtjifpjfinffamaaQ
import Derived.Test.YtjifpjfinffamaaW4
import Derived.Deep.LoopGhost
import Derived.WalkMore
namespace Go.Proofs.Ytjifpjfinffamaa
open Go.RowKit

/-- the first p edges that lead from node x -/
def edgesOf (l : List E) (x p : Nat) : List E := ((outRow l x l.length).take p).map fun i => eg l i.toNat
theorem mem_outRow {l : List E} {x k : Nat} {i : Int} (h : i ∈ outRow l x k) : ∃ j : Nat, i = (j : Int) ∧ j < k ∧ (eg l j).f = (x : Int) := by
  simp only [outRow, List.mem_map, List.mem_filter, List.mem_range, decide_eq_true_eq] at h
  obtain ⟨j, ⟨h1, h2⟩, rfl⟩ := h
  exact ⟨j, rfl, h1, h2⟩
theorem eg_mem {l : List E} {i : Nat} (h : i < l.length) : eg l i ∈ l := by
  have : eg l i = l[i] := by simp [eg, List.getD, h]
  rw [this]
  exact List.getElem_mem h
theorem edgesOf_succ {l : List E} {x p : Nat} {i : Int} (h : (outRow l x l.length)[p]? = some i) : edgesOf l x (p + 1) = edgesOf l x p ++ [eg l i.toNat] := by
  simp [edgesOf, List.take_add_one, h]
theorem edgesOf_all {l : List E} {x : Nat} {e : E} (he : e ∈ l) (hf : e.f = (x : Int)) : e ∈ edgesOf l x (outRow l x l.length).length := by
  obtain ⟨i, hi, rfl⟩ := List.mem_iff_getElem.1 he
  have hg : eg l i = l[i] := by simp [eg, List.getD, hi]
  simp only [edgesOf, List.take_length, List.mem_map]
  refine ⟨(i : Int), ?_, by simpa using hg⟩
  simp only [outRow, List.mem_map, List.mem_filter, List.mem_range, decide_eq_true_eq]
  exact ⟨i, ⟨hi, by rw [hg]; exact hf⟩, rfl⟩

/-- an owned list of numbers: one stored anew -/
theorem own_set {w : World} {base g n c : Nat} {ds : List Int} (h : w.ownsRow base 3 1 (.slice (some ⟨g, 0, none⟩) n c) n (ints ds)) (j : Nat) (x : Int) :
    (w.setCell ⟨g, j, none⟩ (.int .i64 x)).ownsRow base 3 1 (.slice (some ⟨g, 0, none⟩) n c) n (ints (ds.set j x)) := by
  have := (h.stored j (.int .i64 x)).1
  rwa [show ints (ds.set j x) = (ints ds).set j (.int .i64 x) from by simp [ints, List.map_set]]
theorem own_cell {w : World} {base g n c : Nat} {ds : List Int} (h : w.ownsRow base 3 1 (.slice (some ⟨g, 0, none⟩) n c) n (ints ds)) {v : Nat} (hv : v < ds.length) : w.cell? ⟨g, v, none⟩ = some (.int .i64 (at_ ds v)) := by
  have hl := h.1
  rw [ints, List.length_map] at hl
  rw [h.cellAt v (by omega)]
  simp [ints, at_, List.getD, hv]
theorem own_len {w : World} {base g n c : Nat} {ds : List Int} (h : w.ownsRow base 3 1 (.slice (some ⟨g, 0, none⟩) n c) n (ints ds)) : ds.length = n := by
  have hl := h.1
  rw [ints, List.length_map] at hl
  omega

theorem RR_at {w w' : World} {B : Nat} {A : Option Addr} {rows : List (List Int)} (h : RR w B A rows) (hb : Below B w w') {k : Nat} (hk : k < rows.length) :
    ∃ b off Ai ci, A = some ⟨b, off, none⟩ ∧ b < B ∧ w'.cell? ⟨b, off + k, none⟩ = some (.slice Ai rows[k].length ci) ∧ RK .i64 w B Ai rows[k] := by
  obtain ⟨b, off, e, hB, hc⟩ := h (by omega)
  obtain ⟨Ai, ci, h1, h2⟩ := hc k hk
  exact ⟨b, off, Ai, ci, e, hB, (hb.cell (p := ⟨b, off + k, none⟩) hB).trans h1, h2⟩
theorem unseen_start {N σ : Nat} (h : σ < N) : unseen ((List.replicate N (-1)).set σ 0) + 1 = N := by
  have hl : σ < (List.replicate N (-1 : Int)).length := by simpa using h
  have := sumBy_set unseen1 0 (List.replicate N (-1)) σ hl
  rw [sumBy_replicate, show (List.replicate N (-1 : Int))[σ] = -1 from by simp, show unseen1 (-1) = 1 from rfl, show unseen1 0 = 0 from rfl] at this
  unfold unseen
  omega
def Small (N : Nat) (d : List Int) : Prop := ∀ v : Int, 0 ≤ v → v < N → at_ d v < N
def Few (N : Nat) (d : List Int) : Prop := ∀ v : Int, 0 ≤ v → v < N → at_ d v + unseen d < N
theorem few_start {N σ : Nat} (h : σ < N) : Few N ((List.replicate N (-1)).set σ 0) := by
  intro v hv hvN
  have hu := unseen_start h
  have : at_ ((List.replicate N (-1)).set σ 0) v ≤ 0 := by
    have hs := at_set (d := List.replicate N (-1 : Int)) (v := (σ : Int)) (w := v) (x := 0) (by omega) (by simpa using h) hv
    simp only [Int.toNat_natCast] at hs
    rw [hs]
    split
    · omega
    · simp [at_, List.getD, List.getElem?_replicate]
      split <;> simp
  omega
theorem few_push {N : Nat} {d : List Int} {t x : Int} (h : Few N d) (ht : 0 ≤ t) (hl : t.toNat < d.length) (hx : 0 ≤ x ∧ x < N) (hu : unseen (d.set t.toNat (at_ d x + 1)) + 1 = unseen d) : Few N (d.set t.toNat (at_ d x + 1)) := by
  intro v hv hvN
  rw [at_set ht hl hv]
  have h1 := h x hx.1 hx.2
  have h2 := h v hv hvN
  split <;> omega

set_option maxRecDepth 100000 in
set_option maxHeartbeats 3200000 in
theorem far_any (N σ : Nat) (A A3 : Option Addr) (cap c3 : Nat) (l : List E) (w : World) (hN : N ≤ 65536) (hσ : σ < N) (ok : Ok N l) (hl : l.length * 24 ≤ 140737488351232) (hc : RE w w.heap.size A l) (hr : RR w w.heap.size A3 (outRows l N)) :
    Calls Try.prog 69 #[.int .i64 N, .int .i64 σ, .slice A l.length cap, .slice A3 N c3] w fun e w' => ∃ c' d, e = .returned (.slice (some ⟨w.heap.size, 0, none⟩) N c') ∧ IsDist N l σ d ∧ w'.ownsRow w.heap.size 3 1 (.slice (some ⟨w.heap.size, 0, none⟩) N c') N (ints d) ∧ Below w.heap.size w w' ∧ Small N d := by
  go_enter Try.func69, Try.ntmps69
  go_wp2
  go_step3
  go_wp2_with (at_make; refine halt_ ?_)
  refine Halt_.go ?_
  obtain ⟨i0, hi, hz0, hz1, hz2⟩ := info_parts info3
  refine wpList_make_full _ rfl _ _ 31 rfl w.heap.size 3 i0 _ 1 Try.underlying31 hi hz0 hz1 _ _ _ _ N (by rfl) (by rfl) rfl rfl (by rw [hz2]; omega) (by unfold maxLen; omega) (Nat.le_refl _) ?_
  intro w1 hown1 hgrow1
  have hds : (madeCells (Value.int .i64 0).cells (N * 1)).toList = ints (List.replicate N 0) := by
    rw [show (Value.int .i64 0).cells = #[Value.int .i64 0] from rfl, toList_madeCells_one, Nat.mul_one]
    simp [ints]
  rw [hds] at hown1
  have hb1 : Below w.heap.size w w1 := (Below.refl _ _).grown hgrow1 (Nat.le_refl _) (fun g hg => by cases hg)
  clear hds hgrow1 hi hz0 hz1 hz2
  go_wp2
  go_loopw [19] (fun i wr => ∃ (k : Nat) (ds : List Int), k ≤ N ∧ i = .int .i64 k ∧ ds.length = N ∧ (∀ j : Nat, j < k → ds[j]? = some (-1)) ∧ wr.ownsRow w.heap.size 3 1 (.slice (some ⟨w.heap.size, 0, none⟩) N N) N (ints ds) ∧ Below w.heap.size w wr) (fun i _ => N - (intOf i).toNat)
  case atStart => exact ⟨0, _, Nat.zero_le _, rfl, by simp, fun j hj => by omega, hown1, hb1⟩
  case round =>
    clear hown1 hb1
    obtain ⟨k, ds, hk, rfl, hdl, hneg, hown, hbel⟩ := hrel
    by_cases hlt : k < N
    · have h1 := own_cell hown (v := k) (by omega)
      have h2 := hown.frozenAt k
      have h3 := own_set hown k (-1)
      have H3 := Lib.hid h3
      have HN := Lib.hid hneg
      have HD := Lib.hid hdl
      clear hown h3 hneg hdl
      go_wp2
      go_roundw
      case rel =>
        refine ⟨k + 1, _, by omega, by go_num, by rw [List.length_set]; exact HD.out, fun j hj => ?_, H3.out, hbel.setCell (Nat.le_refl _) _⟩
        by_cases hjk : j = k
        · subst hjk; rw [List.getElem?_set_self (by have := HD.out; omega)]
        · rw [List.getElem?_set_ne (by omega)]; exact HN.out j (by omega)
      case measure => simp [intOf]; omega
    · have hrep : ds = List.replicate N (-1) := by
        apply List.ext_getElem?
        intro j
        by_cases hj : j < N
        · rw [hneg j (by omega)]; simp [hj]
        · rw [List.getElem?_eq_none (by omega), List.getElem?_eq_none (by simp; omega)]
      subst hrep
      clear hneg hdl
      have h1 := own_cell hown (v := σ) (by simp; omega)
      have h2 := hown.frozenAt σ
      have h3 := own_set hown σ 0
      have hB := BInv.start ok (s := (σ : Int)) (by omega)
      simp only [Int.toNat_natCast] at hB
      have hsz := hbel.size
      have hgl := (hown.lt w.heap.size rfl).2
      have H3 := Lib.hid h3
      have HB := Lib.hid hB
      clear hown h3 hB
      go_wp2
      go_step3
      go_wp2
      go_loopg [11] N (fun gk v wr => ∃ (ds q : List Int) (A' : Option Addr) (n' c' : Nat), v = .slice A' n' c' ∧ BInv N l σ ds q ∧ Few N ds ∧ wr.ownsRow w.heap.size 3 1 (.slice (some ⟨w.heap.size, 0, none⟩) N N) N (ints ds) ∧ OwnQ wr (w.heap.size + 1) A' n' c' q ∧ (unseen ds + q.length ≤ gk ∧ gk ≤ N) ∧ Below w.heap.size w wr)
      case atStart =>
        have hq0 := OwnQ.one (w := wr.setCell ⟨w.heap.size, σ, none⟩ (.int .i64 0)) (x := (σ : Int)) (base := w.heap.size + 1) (Nat.lt_of_lt_of_le hgl (Nat.le_of_eq (by simp)))
        simp only [World.size_setCell] at hq0
        refine ⟨_, [(σ : Int)], _, _, _, rfl, HB.out, few_start hσ, H3.out.alloc _, hq0, ?_, ?_⟩
        · have := unseen_start hσ
          simp only [List.length_singleton]
          exact ⟨by omega, Nat.le_refl _⟩
        · have hb2 := hbel.setCell (p := ⟨w.heap.size, σ, none⟩) (Nat.le_refl _) (.int .i64 0)
          exact hb2.alloc (Nat.le_trans (Nat.le_of_lt hgl) (Nat.le_of_eq (by simp))) _
      case round =>
        clear HB H3 h1 h2 hbel hgl hsz
        obtain ⟨ds, q, A', n', c', rfl, hB, hF, hown, hq, ⟨hle, hgN⟩, hbel⟩ := hrel
        have hn' := hq.len
        have hc' := hq.le
        cases q with
        | nil =>
          subst hn'
          have HB := Lib.hid hB.fin
          have HF := Lib.hid hF
          clear hB hF
          simp only [List.length_nil] at *
          go_wp2
          try rw [Exit.noGoto_ret]
          go_ret
          exact ⟨_, ds, rfl, HB.out, hown, hbel, fun v h0 h1 => by have := HF.out v h0 h1; omega⟩
        | cons x q =>
          obtain ⟨g, o, rfl, hcx⟩ := hq.head
          have hq2 := hq.tail
          have hM := hB.pop
          have hxin := hM.xin
          obtain ⟨x, rfl⟩ := Int.eq_ofNat_of_zero_le hxin.1.1
          have hxN : x < N := by have := hxin.1.2; omega
          obtain ⟨rb, ro, Ar, cr, rfl, hrb, hcr, hrk⟩ := RR_at hr hbel (k := x) (by simp [outRows]; omega)
          have hrow : (outRows l N)[x]'(by simp [outRows]; omega) = outRow l x l.length := by simp [outRows]
          rw [hrow] at hcr hrk
          rw [hn'] at hq2
          simp only [List.length_cons, Nat.add_sub_cancel] at *
          obtain ⟨A2, hA2, hq2⟩ : ∃ A2, (if c' = 1 then some ⟨g, o, none⟩ else some ⟨g, o + 1, none⟩) = A2 ∧ OwnQ wr (w.heap.size + 1) A2 q.length (c' - 1) q := ⟨_, rfl, hq2⟩
          have HM := Lib.hid hM
          have HF := Lib.hid hF
          have HO := Lib.hid hown
          have HQ := Lib.hid hq2
          have HA := Lib.hid hA2
          have HR := Lib.hid hrk
          have HE := Lib.hid hc
          have HL := Lib.hid hle
          have hsz := hbel.size
          clear hB hF hown hq hq2 hM hrow hxin hr hA2 hrk hc hle
          have i1 : (0 : Int) ≤ (x : Int) := by omega
          have i2 : (x : Int) < (N : Int) := by omega
          go_wp2
          all_goals
            have HQ2 : OwnQ wr (w.heap.size + 1) A2 q.length (c' - 1) q := HQ.out
            rw [← HA.out] at HQ2
            simp only [h, if_true, if_false] at HQ2
            have HQ3 := Lib.hid HQ2
            clear HQ2 HQ HA h
            go_loopw [44, 11] (fun i v wr => ∃ (p : Nat) (ds q : List Int) (A' : Option Addr) (n' c' : Nat), p ≤ (outRow l x l.length).length ∧ i = .int .i64 p ∧ v = .slice A' n' c' ∧ MInv N l σ x (edgesOf l x p) ds q ∧ Few N ds ∧ wr.ownsRow w.heap.size 3 1 (.slice (some ⟨w.heap.size, 0, none⟩) N N) N (ints ds) ∧ OwnQ wr (w.heap.size + 1) A' n' c' q ∧ unseen ds + q.length < gk ∧ Below w.heap.size w wr) (fun i v _ => (outRow l x l.length).length - (intOf i).toNat)
            case atStart =>
              exact ⟨0, ds, q, _, _, _, Nat.zero_le _, rfl, rfl, HM.out, HF.out, HO.out, HQ3.out, by have := HL.out; omega, hbel⟩
            case round =>
              clear HM HF HO HQ3 HL hbel hcx hcr hn' hsz
              obtain ⟨p, ds, q, A', n', c', hp, rfl, rfl, hM, hF, hown, hq, hle, hbel⟩ := hrel
              have hn' := hq.len
              subst hn'
              have hsz := hbel.size
              have hcnt := outRow_len l x l.length
              by_cases hlt : p < (outRow l x l.length).length
              · obtain ⟨pb, po, j, rfl, hpb, hj, hcj⟩ := HR.out.at_ hbel hlt
                obtain ⟨j, rfl, hjl, hjf⟩ := mem_outRow (List.mem_of_getElem? hj.out)
                obtain ⟨eb, eo, f, t, kk, rfl, heb, he, he1, he2, he3⟩ := HE.out.at_ hbel hjl
                have heg : eg l j = ⟨f, t, kk⟩ := by simp [eg, List.getD, he.out]
                have hmem := ok _ (List.mem_of_getElem? he.out)
                simp only at hmem
                obtain ⟨t, rfl⟩ := Int.eq_ofNat_of_zero_le hmem.2.1
                have htN : t < N := by have := hmem.2.2; omega
                have hdl := own_len hown
                have hcx := own_cell hown (v := x) (by omega)
                have hct := own_cell hown (v := t) (by omega)
                have hfr := hown.frozenAt t
                have hsucc := edgesOf_succ hj.out
                simp only [Int.toNat_natCast, heg] at hsucc
                have i3 : (0 : Int) ≤ (t : Int) := by omega
                have i4 : (t : Int) < (N : Int) := by omega
                have i5 : (0 : Int) ≤ (j : Int) := by omega
                have i6 : (j : Int) < (l.length : Int) := by omega
                by_cases hneg : 0 ≤ at_ ds t
                · have hM2 := hM.skip ok (List.mem_of_getElem? he.out) hneg
                  rw [← hsucc] at hM2
                  have HM := Lib.hid hM2
                  have HF := Lib.hid hF
                  have HO := Lib.hid hown
                  have HQ := Lib.hid hq
                  have HL := Lib.hid hle
                  clear hM hM2 hF hown hq hle hmem heg hsucc hjf he hj hfr hdl ok
                  go_wp2
                  go_roundw
                  case rel => exact ⟨p + 1, ds, q, _, _, _, hlt, by go_num, rfl, HM.out, HF.out, HO.out, HQ.out, HL.out, hbel⟩
                  case measure => simp [intOf]; omega
                · obtain ⟨hM2, hu⟩ := hM.push ok (List.mem_of_getElem? he.out) (by rw [heg] at hjf; exact hjf) (Int.not_le.1 hneg)
                  simp only [Int.toNat_natCast] at hM2 hu
                  rw [← hsucc] at hM2
                  have hF2 := few_push hF (t := (t : Int)) (x := (x : Int)) (by omega) (by simp; omega) (by omega) (by simpa using hu)
                  simp only [Int.toNat_natCast] at hF2
                  have hb := hF (x : Int) (by omega) (by omega)
                  have hx0 := hM.xin.2
                  have hown2 := own_set hown t (at_ ds x + 1)
                  have hqn : ∀ g o, A' = some ⟨g, o, none⟩ → w.heap.size + 1 ≤ g ∧ g < wr.heap.size := by
                    intro g o hA
                    obtain ⟨g', o', cur, h1, h2, h3, _⟩ := hq.at_
                    rw [h1] at hA
                    injection hA with hA
                    injection hA with hA
                    subst hA
                    exact ⟨h2, (Array.getElem?_eq_some_iff.1 h3).1⟩
                  have hq2 : OwnQ (wr.setCell ⟨w.heap.size, t, none⟩ (.int .i64 (at_ ds x + 1))) (w.heap.size + 1) A' q.length c' q := hq.keep fun g o hA => by
                    exact Below.heap_setCell wr ⟨w.heap.size, t, none⟩ _ g (Nat.ne_of_gt (hqn g o hA).1)
                  have HM := Lib.hid hM2
                  have HF := Lib.hid hF2
                  have HO := Lib.hid hown2
                  have HQ := Lib.hid hq2
                  have HN := Lib.hid hqn
                  have HL := Lib.hid hle
                  have HU := Lib.hid hu
                  clear hM hM2 hF hF2 hown hown2 hq hq2 hle hmem heg hsucc hjf he hj hdl ok hqn hu
                  go_wp2
                  go_region
                  go_wp2_with (at_builtin; refine halt_ ?_)
                  refine Halt_.go ?_
                  refine wl_append_q _ (by rfl) (.tmp 69) (.tmp 75) 31 (by rfl) (w.heap.size + 1) info3 Try.underlying31 A' q.length c' q (by rfl) (HQ.out.keep fun g o hA => Below.heap_alloc _ _ g (by have := (HN.out g o hA).2; simp; omega)) wr.heap.size 1 (t : Int) (by rfl) (heap_at _ _ _ (by simp)) (by have := HL.out; have := HU.out; omega) (by simp; omega) (fun g o hA => by have := (HN.out g o hA).2; omega) ?_
                  intro A3 c3 w2 hq3 hgr
                  have hpost : w2.ownsRow w.heap.size 3 1 (.slice (some ⟨w.heap.size, 0, none⟩) N N) N (ints (ds.set t (at_ ds x + 1))) ∧ Below w.heap.size w w2 := by
                    have hmap : ∀ k, A'.map (·.block) = some k → w.heap.size + 1 ≤ k := by
                      intro k hk
                      obtain ⟨g, o, cur, h1, h2, _⟩ := HQ.out.at_
                      rw [h1] at hk
                      have : g = k := Option.some.inj hk
                      omega
                    refine ⟨(((HO.out).alloc _).drew).kept hgr (.inr fun hc => by have := hmap w.heap.size hc.symm; omega), ?_⟩
                    have hb2 := hbel.setCell (p := ⟨w.heap.size, t, none⟩) (Nat.le_refl _) (.int .i64 (at_ ds x + 1))
                    exact ((hb2.alloc (by simp; omega) (.cells #[.int .i64 t] 3)).drew).grown hgr (by simp; omega) fun k hk => by have := hmap k hk; omega
                  have HP := Lib.hid hpost
                  have HQ3 := Lib.hid hq3
                  clear hpost hq3 hgr HQ HO hbel
                  go_wp2
                  go_roundw
                  case rel => exact ⟨p + 1, _, _, _, _, _, hlt, by go_num, rfl, HM.out, HF.out, HP.out.1, HQ3.out, by have := HL.out; have := HU.out; simp only [List.length_append, List.length_singleton]; omega, HP.out.2⟩
                  case measure => simp [intOf]; omega
              · have hpm : p = (outRow l x l.length).length := by omega
                subst hpm
                have hB := hM.over fun e he hf => edgesOf_all he hf
                have HB := Lib.hid hB
                have HF := Lib.hid hF
                have HO := Lib.hid hown
                have HQ := Lib.hid hq
                have HL := Lib.hid hle
                clear hB hM hF hown hq hle
                go_wp2
                go_roundg (gk - 1)
                case measure => have := HL.out; omega
                case rel => exact ⟨ds, q, _, _, _, rfl, HB.out, HF.out, HO.out, HQ.out, ⟨by have := HL.out; omega, by omega⟩, hbel⟩
end Go.Proofs.Ytjifpjfinffamaa
