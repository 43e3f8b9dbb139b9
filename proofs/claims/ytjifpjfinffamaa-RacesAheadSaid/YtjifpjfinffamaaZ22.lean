/- Texts R14, laid together. -/
import Derived.Test.YtjifpjfinffamaaZ20
import Derived.WalkMore
section
namespace Go.Proofs.Ytjifpjfinffamaa
open Go.RowKit Go.Maps
theorem ByC.empty {w : World} {base mb : Nat} (h : w.ownsMap Try.prog 40 Rv mb 0 (.map [])) (hb : mb < base) : ByC w base mb 0 (fun _ => .slice none 0 0) [] (.map []) :=
  ⟨h, ⟨_, rfl⟩, fun c _ => by simp [has], fun c _ => rfl, fun c _ => World.ownsRow_nil _ _ _ _, fun _ _ _ _ _ => .inl rfl, hb⟩
theorem ByC.look2 {w w2 : World} {base mb m : Nat} {val : Int → Value} {L : List Acc} {D : DataW Value} (h : ByC w base mb m val L D) (hk : w2.heap[mb]? = w.heap[mb]?) {c : Int} (hc : U64 c) : (Instr.lookup 174 (.map (some mb)) (.int .u64 c) false).run Try.prog w2 = .ok (val c) w2 := by
  obtain ⟨v, ps, hrun, hv⟩ := (ownsMap_kept h.own hk).lookup (int_keyed Try.underlying40) Try.underlying174 (zero70 w2) (zd := .held (.slice none 0 0)) (zp := []) rfl (ukey hc)
  unfold Rv at hv
  rw [h.at_ c hc] at hv
  simp only [Option.some.injEq, Prod.mk.injEq, DataW.held.injEq] at hv
  rw [hrun, hv.1]
theorem accL_u64 {w : World} {B : Nat} {A : Option Addr} {l : List Ev} {bl : List Bl} (hc : EvR w B A l) {n : Nat} (hn : n ≤ l.length) : ∀ a ∈ accL l bl n, U64 a.ad := by
  intro a ha
  obtain ⟨h1, h2⟩ := accL_mem.1 ha
  have hk : a.ev < l.length := by omega
  have he := hc.1 _ (List.getElem_mem hk)
  rw [accAt_case (List.getElem?_eq_getElem hk)] at h2
  have : a.ad = l[a.ev].addr := by
    repeat' split at h2
    all_goals first | exact (congrArg Acc.ad (Option.some.inj h2)).symm | cases h2
  rw [this]
  exact he.1
theorem map_size_le {w : World} {mb n : Nat} {D : DataW Value} (h : w.ownsMap Try.prog 40 Rv mb n D) : Maps.size D ≤ n := by
  obtain ⟨es, ck, _, _, hn, rfl⟩ := h
  simp only [Maps.size, length_sorted]
  simpa using hn
structure Sm (a b : World) : Prop where
  heap : b.heap = a.heap
  os : b.os = a.os
  tape : b.tape = a.tape
  output : b.output = a.output
theorem Sm.refl (a : World) : Sm a a := ⟨rfl, rfl, rfl, rfl⟩
theorem Ex.sm {a b c : World} {S : Nat → Prop} (h : Ex a b S) (hs : Sm b c) : Ex a c S := ⟨hs.os.trans h.os, hs.tape.trans h.tape, hs.output.trans h.output, by rw [hs.heap]; exact h.size, fun k h1 h2 => by rw [hs.heap]; exact h.block k h1 h2⟩
theorem Sm.below {a b : World} (hs : Sm a b) (B : Nat) : Below B a b := ⟨hs.os, hs.tape, hs.output, by rw [hs.heap]; exact Nat.le_refl _, fun k _ => by rw [hs.heap]⟩
set_option linter.unusedSimpArgs false in
set_option maxRecDepth 100000 in
set_option maxHeartbeats 12800000 in
theorem racesW_any (hi gW gF : Nat) (Ap : Option Addr) (cp : Nat) (Ab : Option Addr) (cb : Nat) (hd : Nat → Value) (l : List Ev) (bl : List Bl) (lk : List Nat) (sn : Nat → Nat → Nat) (tn : Nat → Nat) (A : Option Addr) (cap : Nat) (w : World)
    (h : WebR w hi gW gF Ap cp Ab cb hd l bl lk sn tn) (hB : HBk l bl lk) (hhi : hi ≤ w.heap.size) (hc : EvR w w.heap.size A l) (hl : l.length ≤ 1000) :
    Calls Try.prog 87 #[.pointer (some ⟨gW, 0, none⟩), .slice A l.length cap] w fun e w' => ∃ Ar cr, e = .returned (.slice Ar (raL l bl lk).length cr) ∧ OwnR2 w' w.heap.size Ar cr (raL l bl lk) ∧ Below w.heap.size w w' := by
  have HW := Lib.hid h
  have HBK := Lib.hid hB
  have hmm := @run_makeMap Try.prog
  have hb1 := (Below.refl w.heap.size w).alloc (Nat.le_refl _) (.map #[] 0)
  have HACC := Lib.hid (accesses_any hi gW gF Ap cp Ab cb hd l bl lk sn tn A cap (w.alloc (.map #[] 0)) (h.below (hb1.mono hhi)) hB (by simp; omega) ((hc.below hb1).more (by simp)) (by omega))
  have hun : ∀ a ∈ accL l bl l.length, U64 a.ad := accL_u64 hc (Nat.le_refl _)
  have hsrt := accL_sorted (l := l) (bl := bl) l.length
  have hlen := accL_len (l := l) (bl := bl) l.length
  have hof : ∀ a ∈ accL l bl l.length, a.ev < l.length ∧ 0 ≤ ofP l bl a.ev := fun a ha => by
    obtain ⟨h1, h2⟩ := accL_mem.1 ha
    exact ⟨h1, accAt_of hB.f h1 h2⟩
  have hraL : raL l bl lk = rr ac0 (fun a b => a.ad == b.ad && raceF l bl lk a b) Acc.ev (accL l bl l.length) (accL l bl l.length).length := rfl
  have HRA := Lib.hid hraL
  clear h hB hc hraL
  generalize raL l bl lk = RA at *
  generalize accL l bl l.length = L at *
  have HUN := Lib.hid hun
  have HSR := Lib.hid hsrt
  have HOF := Lib.hid hof
  have hb1s := hb1.size
  clear hun hsrt hof
  have hm0 : (w.alloc (.map #[] 0)).ownsMap Try.prog 40 Rv w.heap.size 0 (.map []) := World.ownsMap_made _ _ _ _
  go_enter Try.func87, Try.ntmps87
  go_wp2_with (go_at_call 86; refine halt_ ?_)
  refine Halt_.go ?_
  refine HACC.out.mono ?_
  rintro e w2 ⟨Aa, ca, rfl, hoa, hb2⟩
  have hs2 := hb2.size
  have hs1 : (w.alloc (.map #[] 0)).heap.size = w.heap.size + 1 := by simp
  have HBY0 := Lib.hid (ByC.empty (base := w2.heap.size) (ownsMap_kept hm0 (hb2.block w.heap.size (by omega))) (by omega))
  rw [hs1] at hoa
  have HOA := Lib.hid hoa
  have HB2 := Lib.hid (hb1.trans (hb2.mono (by omega)))
  have hs3 : w.heap.size + 1 ≤ w2.heap.size := by omega
  clear hm0 hoa hb1 hb2 hs2 hs1 hb1s HACC
  go_wp2
  go_loopw [22] (fun i wr => ∃ (k : Nat) (val : Int → Value) (D : DataW Value), k ≤ L.length ∧ i = .int .i64 k ∧ Hid (ByC wr w2.heap.size w.heap.size k val (L.take k) D) ∧ Hid (Ex w2 wr (fun j => j = w.heap.size))) (fun i _ => L.length - (intOf i).toNat)
  case atStart => exact ⟨0, _, _, Nat.zero_le _, rfl, Lib.hid (by rw [List.take_zero]; exact HBY0.out), Ex.refl _ _⟩
  case round =>
    clear HBY0
    obtain ⟨k, val, D, hkn, rfl, HBY, HE⟩ := hrel
    by_cases hlt : k < L.length
    · as_aux_lemma =>
        obtain ⟨a, ha⟩ : ∃ a, L[k]? = some a := ⟨_, List.getElem?_eq_getElem hlt⟩
        have hau := HUN.out a (List.mem_of_getElem? ha)
        obtain ⟨ga, capa, hva, hba, hla⟩ := World.ownsRow.form HOA.out (by omega)
        have hAa : Aa = some ⟨ga, 0, none⟩ := by injection hva
        subst hAa
        obtain ⟨c0, c1, c2, c3, c4⟩ := HOA.out.at_ ha
        have hsr := HE.out.size
        have hce : ∀ (j : Nat) v, w2.cell? ⟨ga, j, none⟩ = some v → wr.cell? ⟨ga, j, none⟩ = some v := fun j v hv => (HE.out.cell (p := ⟨ga, j, none⟩) hla (by show ga ≠ _; omega)).trans hv
        replace c0 := hce _ _ c0
        replace c1 := hce _ _ c1
        replace c2 := hce _ _ c2
        replace c3 := hce _ _ c3
        replace c4 := hce _ _ c4
        obtain ⟨w3, hw3⟩ : ∃ w3, w3 = wr.alloc (.cells #[.int .i64 (a.ev : Int), .int .i64 a.th, .int .u64 a.ad, .bool a.wr, .bool a.pl] 83) := ⟨_, rfl⟩
        have hE3 : Ex wr w3 (fun _ => False) := by rw [hw3]; exact (Ex.refl wr _).alloc _
        have HB3 := Lib.hid (HBY.out.keep (w2 := w3) fun j _ hj => hE3.block j hj (fun h => h))
        have hrow := HB3.out.row a.ad hau
        obtain ⟨Av, cv, hval⟩ := own_shape hrow
        obtain ⟨nv, hnv⟩ : ∃ nv, nv = (atC (L.take k) a.ad).length := ⟨_, rfl⟩
        rw [hval] at hrow
        rw [← hnv] at hrow hval
        have hnvk : nv ≤ 1000 := by
          have h1 := List.length_filter_le (fun b : Acc => b.ad == a.ad) (L.take k)
          have h2 := List.length_take_le k L
          rw [hnv]
          show (List.filter _ _).length ≤ _
          omega
        have hsz3 : wr.heap.size + 1 ≤ w3.heap.size := by rw [hw3]; simp
        have hcc : w3.heap[wr.heap.size]? = some (.cells (acell a).toArray 83 (0, 0)) := by rw [hw3]; exact heap_at _ _ _ rfl
        have d0 : w3.cell? ⟨wr.heap.size, 0, none⟩ = some (.int .i64 (a.ev : Int)) := by rw [cell_of_row _ _ 0 _ 83 (0, 0) hcc]; rfl
        have d1 : w3.cell? ⟨wr.heap.size, 1, none⟩ = some (.int .i64 a.th) := by rw [cell_of_row _ _ 1 _ 83 (0, 0) hcc]; rfl
        have d2 : w3.cell? ⟨wr.heap.size, 2, none⟩ = some (.int .u64 a.ad) := by rw [cell_of_row _ _ 2 _ 83 (0, 0) hcc]; rfl
        have d3 : w3.cell? ⟨wr.heap.size, 3, none⟩ = some (.bool a.wr) := by rw [cell_of_row _ _ 3 _ 83 (0, 0) hcc]; rfl
        have d4 : w3.cell? ⟨wr.heap.size, 4, none⟩ = some (.bool a.pl) := by rw [cell_of_row _ _ 4 _ 83 (0, 0) hcc]; rfl
        have hfar : ∀ j, (Value.slice Av nv cv).ownBlock = some j → w2.heap.size ≤ j ∧ j < wr.heap.size := fun j hj => by
          refine ⟨(World.ownsRow.lt hrow j hj).1, ?_⟩
          have h0 := HBY.out.row a.ad hau
          rw [hval] at h0
          exact (World.ownsRow.lt h0 j hj).2
        have hmkS : ∀ W : World, Ex w3 W (fun j => (Value.slice Av nv cv).ownBlock = some j) → ((W.cell? ⟨wr.heap.size, 0, none⟩ = some (.int .i64 (a.ev : Int)) ∧ W.cell? ⟨wr.heap.size, 1, none⟩ = some (.int .i64 a.th) ∧ W.cell? ⟨wr.heap.size, 2, none⟩ = some (.int .u64 a.ad) ∧ W.cell? ⟨wr.heap.size, 3, none⟩ = some (.bool a.wr) ∧ W.cell? ⟨wr.heap.size, 4, none⟩ = some (.bool a.pl)) ∧ (Instr.lookup 174 (.map (some w.heap.size)) (.int .u64 a.ad) false).run Try.prog W = .ok (.slice Av nv cv) W) ∧ Ex w3 W (fun j => (Value.slice Av nv cv).ownBlock = some j) := fun W h => by
          have hn : ¬ (Value.slice Av nv cv).ownBlock = some wr.heap.size := fun e => by have := (hfar _ e).2; omega
          have hcl : ∀ (j : Nat) v, w3.cell? ⟨wr.heap.size, j, none⟩ = some v → W.cell? ⟨wr.heap.size, j, none⟩ = some v := fun j v hv => (h.cell (p := ⟨wr.heap.size, j, none⟩) (by show wr.heap.size < _; omega) hn).trans hv
          refine ⟨⟨⟨hcl _ _ d0, hcl _ _ d1, hcl _ _ d2, hcl _ _ d3, hcl _ _ d4⟩, ?_⟩, h⟩
          have := HB3.out.look2 (w2 := W) (h.block w.heap.size (by omega) (fun e => by have := (hfar _ e).1; omega)) hau
          rwa [hval] at this
        have HROW : Hid (w3.drew.ownsRow w2.heap.size 83 5 (.slice Av nv cv) nv ((atC (L.take k) a.ad).flatMap acell)) := own_keep hrow fun _ _ => rfl
        have HPUT : Hid (∀ (v : Value) (w4 : World), w3.grownBy w4 (Value.slice Av nv cv).ownBlock → w4.ownsRow w2.heap.size 83 5 v (nv + 1) ((atC (L.take k) a.ad).flatMap acell ++ acell a) → (v.ownBlock = (Value.slice Av nv cv).ownBlock ∨ ∃ g, v.ownBlock = some g ∧ w3.heap.size ≤ g) →
            ∃ w5, (Instr.mapUpdate 174 (.map (some w.heap.size)) (.int .u64 a.ad) v).run Try.prog w4 = .ok () w5 ∧ w4.grownBy w5 (some w.heap.size) ∧ ByC w5 w2.heap.size w.heap.size (k + 1) (fun x => if x = a.ad then v else val x) (L.take k ++ [a]) (D.put (.int .u64 a.ad) (.held v))) := fun v w4 h1 h2 h3 => by
          rw [← hval] at h1 h3
          rw [hnv] at h2
          exact HB3.out.put hau (by unfold maxLen; omega) h1 h2 h3
        have HS := Lib.hid hmkS
        have HFR := Lib.hid hfar
        have HW3 := Lib.hid hw3
        have HAT := Lib.hid ha
        have HE3 := Lib.hid hE3
        have i1 : (0 : Int) ≤ (k : Int) := by omega
        have i2 : (k : Int) < (L.length : Int) := by omega
        clear ha hrow hval hnv hw3 hE3 hcc hmkS hfar d0 d1 d2 d3 d4 HBY hce
        go_wp2
        rw [← HW3.out]
        have hSt := HS.out w3.drew (Ex.refl w3 _).drew
        clear c0 c1 c2 c3 c4 HW3
        refine wp_region_C (S := fun W => ((W.cell? ⟨wr.heap.size, 0, none⟩ = some (.int .i64 (a.ev : Int)) ∧ W.cell? ⟨wr.heap.size, 1, none⟩ = some (.int .i64 a.th) ∧ W.cell? ⟨wr.heap.size, 2, none⟩ = some (.int .u64 a.ad) ∧ W.cell? ⟨wr.heap.size, 3, none⟩ = some (.bool a.wr) ∧ W.cell? ⟨wr.heap.size, 4, none⟩ = some (.bool a.pl)) ∧ (Instr.lookup 174 (.map (some w.heap.size)) (.int .u64 a.ad) false).run Try.prog W = .ok (.slice Av nv cv) W) ∧ Ex w3 W (fun j => (Value.slice Av nv cv).ownBlock = some j)) 10 (by kernel_rfl) hSt (fun hHeld => ?_)
        clear hSt
        refine wpAnyC_take [10] (i := 0) (oi := _) (v := ?v5_0) rfl (by kernel_rfl) (by kernel_rfl) (by kernel_rfl) (by kernel_rfl) (fun _ _ _ h => h) (Or.inl ⟨by rfl, ?hy5_0⟩) (by assumption) ?rest5_0
        case hy5_0 => ((intro w hSw; (try dsimp only at hSw); go_simp); (try with_reducible rfl))
        (try simp only [Act.put, Array.getInternal_eq_getElem, List.getElem_toArray, List.getElem_cons_zero, List.getElem_cons_succ, List.setIfInBounds_toArray, List.set_cons_zero, List.set_cons_succ])
        refine wpAnyC_take [10] (i := 1) (oi := _) (v := ?v5_1) rfl (by kernel_rfl) (by kernel_rfl) (by kernel_rfl) (by kernel_rfl) (fun _ _ _ h => h) (Or.inl ⟨by rfl, ?hy5_1⟩) (by assumption) ?rest5_1
        case hy5_1 => ((intro w hSw; (try dsimp only at hSw); go_simp); (try with_reducible rfl))
        (try simp only [Act.put, Array.getInternal_eq_getElem, List.getElem_toArray, List.getElem_cons_zero, List.getElem_cons_succ, List.setIfInBounds_toArray, List.set_cons_zero, List.set_cons_succ])
        refine wpAnyC_take [10] (i := 2) (oi := _) (v := ?v5_2) rfl (by kernel_rfl) (by kernel_rfl) (by kernel_rfl) (by kernel_rfl) (fun _ _ _ h => h) (Or.inl ⟨by rfl, ?hy5_2⟩) (by assumption) ?rest5_2
        case hy5_2 => ((intro w hSw; (try dsimp only at hSw); go_simp); (try with_reducible rfl))
        (try simp only [Act.put, Array.getInternal_eq_getElem, List.getElem_toArray, List.getElem_cons_zero, List.getElem_cons_succ, List.setIfInBounds_toArray, List.set_cons_zero, List.set_cons_succ])
        refine wpAnyC_take [10] (i := 3) (oi := _) (v := ?v5_3) rfl (by kernel_rfl) (by kernel_rfl) (by kernel_rfl) (by kernel_rfl) (fun _ _ _ h => h) (Or.inl ⟨by rfl, ?hy5_3⟩) (by assumption) ?rest5_3
        case hy5_3 => ((intro w hSw; (try dsimp only at hSw); go_simp); (try with_reducible rfl))
        (try simp only [Act.put, Array.getInternal_eq_getElem, List.getElem_toArray, List.getElem_cons_zero, List.getElem_cons_succ, List.setIfInBounds_toArray, List.set_cons_zero, List.set_cons_succ])
        refine wpAnyC_take [10] (i := 4) (oi := _) (v := ?v5_4) rfl (by kernel_rfl) (by kernel_rfl) (by kernel_rfl) (by kernel_rfl) (fun _ _ _ h => h) (Or.inl ⟨by rfl, ?hy5_4⟩) (by assumption) ?rest5_4
        case hy5_4 => ((intro w hSw; (try dsimp only at hSw); go_simp); (try with_reducible rfl))
        (try simp only [Act.put, Array.getInternal_eq_getElem, List.getElem_toArray, List.getElem_cons_zero, List.getElem_cons_succ, List.setIfInBounds_toArray, List.set_cons_zero, List.set_cons_succ])
        refine wpAnyC_take [10] (i := 5) (oi := _) (v := ?v5_5) rfl (by kernel_rfl) (by kernel_rfl) (by kernel_rfl) (by kernel_rfl) (fun _ _ _ h => h) (Or.inl ⟨by rfl, ?hy5_5⟩) (by assumption) ?rest5_5
        case hy5_5 => ((intro w hSw; (try dsimp only at hSw); go_simp); (try with_reducible rfl))
        (try simp only [Act.put, Array.getInternal_eq_getElem, List.getElem_toArray, List.getElem_cons_zero, List.getElem_cons_succ, List.setIfInBounds_toArray, List.set_cons_zero, List.set_cons_succ])
        refine wpAnyC_take [10] (i := 6) (oi := _) (v := ?v5_6) rfl (by kernel_rfl) (by kernel_rfl) (by kernel_rfl) (by kernel_rfl) (fun _ _ _ h => h) (Or.inl ⟨by rfl, ?hy5_6⟩) (by assumption) ?rest5_6
        case hy5_6 => ((intro w hSw; (try dsimp only at hSw); go_simp); (try with_reducible rfl))
        (try simp only [Act.put, Array.getInternal_eq_getElem, List.getElem_toArray, List.getElem_cons_zero, List.getElem_cons_succ, List.setIfInBounds_toArray, List.set_cons_zero, List.set_cons_succ])
        refine wpAnyC_take [10] (i := 7) (oi := _) (v := ?v5_7) rfl (by kernel_rfl) (by kernel_rfl) (by kernel_rfl) (by kernel_rfl) (fun _ _ _ h => h) (Or.inl ⟨by rfl, ?hy5_7⟩) (by assumption) ?rest5_7
        case hy5_7 => ((intro w hSw; (try dsimp only at hSw); go_simp); (try with_reducible rfl))
        (try simp only [Act.put, Array.getInternal_eq_getElem, List.getElem_toArray, List.getElem_cons_zero, List.getElem_cons_succ, List.setIfInBounds_toArray, List.set_cons_zero, List.set_cons_succ])
        refine wpAnyC_one (i := 8) (o := _) (by kernel_rfl) rfl (fun K hK => ?_)
        go_simp
        refine hK.out _ _ (HS.out _ (hHeld.2.alloc _)) (fun hHeldN => ?_)
        clear hK K hHeld
        have hHeld := hHeldN
        clear hHeldN
        (try simp only [Act.put, Array.getInternal_eq_getElem, List.getElem_toArray, List.getElem_cons_zero, List.getElem_cons_succ, List.setIfInBounds_toArray, List.set_cons_zero, List.set_cons_succ])
        refine wpAnyC_one (i := 9) (o := _) (by kernel_rfl) rfl (fun K hK => ?_)
        refine step_append_two _ (by rfl) (.tmp 32) (.tmp 34) 70 (by rfl) w2.heap.size 83 _ 5 32 info83 Try.underlying70 rfl (by decide) (.slice Av nv cv) nv ((atC (L.take k) a.ad).flatMap acell) (by rfl) (HROW.out.alloc _) w3.heap.size 1 (acell a) (by rfl) (heap_at _ _ _ (by simp)) rfl (by simp [acell, Value.oneCell']) (by omega) (by omega) (by simp; omega) ?_
        intro g cap2 w4 hown4 hlt4 htwo
        have hgr : w3.grownBy w4 (Value.slice Av nv cv).ownBlock := grown_trans (grown_trans (grown_drew _ _) (World.grownBy_alloc _ _ _)) (two_grown htwo)
        refine hK.out _ _ (HS.out _ ((Ex.refl w3 _).grown hgr (fun _ h _ => h))) (fun hHeldN => ?_)
        clear hK K hHeld
        have hHeld := hHeldN
        clear hHeldN
        (try simp only [Act.put, Array.getInternal_eq_getElem, List.getElem_toArray, List.getElem_cons_zero, List.getElem_cons_succ, List.setIfInBounds_toArray, List.set_cons_zero, List.set_cons_succ])
        refine wpAnyC_last (o := _) (by kernel_rfl) rfl (fun K hK => ?_)
        have hv5 : (Value.slice (some ⟨g, 0, none⟩) (nv + 1) cap2).ownBlock = (Value.slice Av nv cv).ownBlock ∨ ∃ j, (Value.slice (some ⟨g, 0, none⟩) (nv + 1) cap2).ownBlock = some j ∧ w3.heap.size ≤ j := htwo.elim (fun h => .inl h.1.symm) (fun h => .inr ⟨g, rfl, by rw [h.1]; simp⟩)
        obtain ⟨w5, hrun5, hg5, hby5⟩ := HPUT.out _ w4 hgr hown4 hv5
        go_simp
        refine hK.out _ _ ?_
        clear hK K
        refine wpAnyC_done (by kernel_rfl) ?_ _
        have htk : L.take (k + 1) = L.take k ++ [a] := by
          rw [List.take_add_one, HAT.out]
          rfl
        rw [← htk] at hby5
        have HBY5 := Lib.hid hby5
        have HE5 := Lib.hid (((HE.out.trans (HE3.out.grow (S' := fun j => j = w.heap.size) (fun _ h => h.elim)) (fun j _ h => h)).grown hgr (fun j h1 h2 => absurd (HFR.out j h1).1 (by omega))).grown hg5 (fun j h1 _ => (Option.some.inj h1).symm))
        clear htk hby5 hg5 hv5 hgr hown4 hlt4 htwo hrun5 HPUT HROW HS HE HB3
        go_wp2
        go_roundw
        case rel => exact ⟨k + 1, _, _, by omega, by go_num, HBY5, HE5⟩
        case measure => simp [intOf]; omega
    · obtain rfl : k = L.length := by omega
      have HBY1 := Lib.hid (show ByC wr w2.heap.size w.heap.size L.length val L D by have := HBY.out; rwa [List.take_length] at this)
      have hown := HBY1.out.own
      have hcnt := map_size_le hown
      have HVL := Lib.hid (fun x (hx : U64 x) j hj => (World.ownsRow.lt (HBY1.out.row x hx) j hj).2)
      clear HBY
      generalize wr = wM at *
      go_wp2_with (first | (at_range; refine wpList_range_own _ rfl _ 174 rfl 40 70 (int_keyed Try.underlying40) Try.underlying174 Rv w.heap.size L.length D rfl hown ?_; intro wR hrg0 hg0 hs0) | go_in)
      go_frame
      have hByR : ByC wR w2.heap.size w.heap.size L.length val L D := HBY1.out.keep fun j _ hj => hg0.block j hj (fun e => by cases e)
      have HBR := Lib.hid hByR
      have HER := Lib.hid (HE.out.grown hg0 (fun j h1 _ => by cases h1))
      have hsz2 := HE.out.size
      obtain ⟨F, hF⟩ : ∃ F, F = raceF l bl lk := ⟨_, rfl⟩
      rw [← hF] at HRA
      have HFF := Lib.hid hF
      have HGB := Lib.hid (And.intro hg0 hs0)
      generalize wM.heap.size = r at *
      clear hByR hF hown HBY1 HE hg0
      go_loopw [8] (fun vo wr => ∃ (left : Lit → Bool) (cnt q : Nat) (cs : List Int) (Ar : Option Addr) (cr : Nat), wr.ranges Try.prog 40 Rv w.heap.size r L.length D left cnt ∧ vo = .slice Ar q cr ∧ cs.length + cnt ≤ L.length ∧ q ≤ cs.length * 1000000 ∧ Hid (q = (rcl ac0 F Acc.ev Acc.ad L cs).length) ∧ Hid (OwnR2 wr wR.heap.size Ar cr (rcl ac0 F Acc.ev Acc.ad L cs)) ∧ Hid (Ex wR wr (fun j => j = r)) ∧ Hid (cs.Nodup ∧ (∀ c, U64 c → (left (.int .u64 c) = true ↔ (has D (.int .u64 c) = true ∧ c ∉ cs))))) (fun _ wr => wr.rangeLeft w.heap.size r)
      case atStart => exact ⟨_, _, 0, [], none, 0, hrg0, rfl, by simp; omega, by simp, rfl, World.ownsRow_nil _ _ _ _, Ex.refl _ _, ⟨List.nodup_nil, fun c _ => by simp⟩⟩
      case round =>
        clear hrg0
        obtain ⟨left, cnt, q, cs, Ar, cr, hrg, rfl, hcc, hq, HQ, HO, HX, HCS⟩ := hrel
        go_wp2_with (first
          | (at_next; refine wpList_next_ranges _ rfl _ rfl 40 (int_keyed Try.underlying40) Rv (Value.int .u64) (fun v => v) (fun key kl hk => by obtain ⟨x, hx, _⟩ := Maps.keyOf_int_inv Try.underlying40 hk; exact ⟨x, hx⟩) (fun v y hv => ⟨v, rfl⟩) w.heap.size r L.length D left cnt rfl hrg ?_ ?_)
          | go_in)
        · intro hc0 hl0
          have hall : ∀ a ∈ L, a.ad ∈ cs := fun a ha => by
            have hu := HUN.out a ha
            by_cases hm : a.ad ∈ cs
            · exact hm
            · have := (HCS.out.2 a.ad hu).2 ⟨(HBR.out.hasE a.ad hu).2 ⟨a, ha, rfl⟩, hm⟩
              rw [hl0] at this
              cases this
          have hsort := sort_races HO.out (by rw [← HQ.out]; omega)
          rw [← HQ.out] at hsort
          have HSO := Lib.hid hsort
          have HALL := Lib.hid hall
          clear hrg hl0 hsort hall
          go_wp2_with (go_at_call 109; refine halt_ ?_)
          refine Halt_.go ?_
          refine HSO.out.mono ?_
          rintro e w6 ⟨rfl, ys, hp, hs, ho6, hg6⟩
          have hys := sorted_rr HSR.out HALL.out HCS.out.1 hp hs
          rw [← HRA.out] at hys
          subst hys
          have hln : q = ys.length := by rw [HQ.out, hp.length_eq]
          have hX6 : Ex wR w6 (fun j => j = r) := HX.out.grown hg6 (fun j h1 h2 => by
            have := (World.ownsRow.lt HO.out j (by rw [← HQ.out]; exact h1)).1
            omega)
          have HF6 : Hid (OwnR2 w6 w.heap.size Ar cr ys ∧ Below w.heap.size w w6) := by
            refine ⟨own_base ho6 (by have := HB2.out.size; have := HER.out.size; omega), hX6.below (HER.out.below HB2.out (fun j hj => by omega) (by omega)) (fun j hj => by have := HGB.out.2; have := HER.out.size; omega) (by have := HER.out.size; omega)⟩
          have HLN := Lib.hid hln
          clear hp hs ho6 hg6 hln hX6
          go_wp2
          go_ret
          exact ⟨Ar, cr, by rw [HLN.out]; rfl, HF6.out.1, HF6.out.2⟩
        · intro x v kl y ps wN cntN hkey hlk hR hat hrgN hltc hgN hsN hen
          obtain ⟨x', hx', rfl, hwf⟩ := Maps.keyOf_int_inv Try.underlying40 hkey
          obtain rfl : x = x' := by injection hx'
          have hxu : U64 x := by
            have h := hwf
            simp [Lit.wf, IntKind.min, IntKind.max, IntKind.signed, IntKind.bits] at h
            exact ⟨by omega, by omega⟩
          have hvv : v = val x := by
            have h1 := hat (.held (.slice none 0 0))
            rw [HBR.out.at_ x hxu] at h1
            unfold Rv at hR
            simp only [Option.some.injEq, Prod.mk.injEq] at hR
            rw [← hR.1] at h1
            simp only [DataW.held.injEq] at h1
            exact h1.symm
          have hvis := ((HCS.out.2 x hxu).1 hlk).2
          have hrow := HBR.out.row x hxu
          obtain ⟨Av, cv, hval⟩ := own_shape hrow
          have hncap : (atC L x).length ≤ cv := by
            rw [hval] at hrow
            rcases (show _ ∨ _ from hrow.2) with ⟨h1, h2⟩ | ⟨g, cap, cur, h1, _, _, h2, _⟩
            · injection h1 with _ h3 h4
              omega
            · injection h1 with _ h3 h4
              omega
          have hvl : ∀ j, (Value.slice Av (atC L x).length cv).ownBlock = some j → j < r := fun j hj => HVL.out x hxu j (by rw [hval]; exact hj)
          rw [hval] at hrow hvv
          subst hvv
          have hsc : (atC L x).Pairwise fun a b => a.ev < b.ev := HSR.out.sublist List.filter_sublist
          have HOC := Lib.hid (fun a (ha : a ∈ atC L x) => HOF.out a (List.mem_filter.1 ha).1)
          have hlc : (atC L x).length ≤ L.length := List.length_filter_le _ _
          obtain ⟨R0, hR0⟩ : ∃ R0, R0 = rcl ac0 F Acc.ev Acc.ad L cs := ⟨_, rfl⟩
          have HRC : Hid (∀ Q, Q = R0 ++ rr ac0 F Acc.ev (atC L x) (atC L x).length → Q = rcl ac0 F Acc.ev Acc.ad L (cs ++ [x])) := by
            intro Q hQ
            rw [hQ, hR0]
            unfold rcl
            rw [List.flatMap_append]
            simp
          have hHO := HO.out
          rw [← hR0] at hHO
          have hHQ := HQ.out
          rw [← hR0] at hHQ
          have hXN : Ex wR wN (fun j => j = r) := HX.out.grown hgN (fun j h1 _ => (Option.some.inj h1).symm)
          have hrs := HGB.out.2
          have hON : OwnR2 wN wR.heap.size Ar cr R0 := own_keep hHO fun g hg => hgN.block g (World.ownsRow.lt hHO g hg).2 (fun e => by
            have h1 := (World.ownsRow.lt hHO g hg).1
            have h2 := Option.some.inj e
            omega)
          have HON := Lib.hid hON
          have HXN := Lib.hid hXN
          have HROW := Lib.hid hrow
          have HVV := Lib.hid hvl
          have HCX : Hid ((cs ++ [x]).Nodup ∧ (∀ c, U64 c → ((left (.int .u64 c) && !(Lit.int .u64 c).sameKey (.int .u64 x)) = true ↔ (has D (.int .u64 c) = true ∧ c ∉ cs ++ [x])))) := by
            refine ⟨?_, fun c hcu => ?_⟩
            · rw [List.nodup_append]
              refine ⟨HCS.out.1, by simp, fun a ha b hb e => ?_⟩
              rw [List.mem_singleton] at hb
              subst hb
              subst e
              exact hvis ha
            · rw [Bool.and_eq_true, HCS.out.2 c hcu]
              by_cases e : c = x
              · subst e
                have : (Lit.int .u64 c).sameKey (.int .u64 c) = true := WideAt.sameKey_self trivial
                simp [this]
              · have : (Lit.int .u64 c).sameKey (.int .u64 x) = false := Maps.sameKey_ne (lit_neu e)
                simp [this, e]
          have HQQ := Lib.hid hHQ
          have HSC := Lib.hid hsc
          generalize atC L x = Lc at *
          clear hHO hHQ hXN hON hrow hvl hsc hlk hR hat hkey hx' hwf hvis hval HO HX HQ hR0
          go_wp2
          go_loopw [45, 8] (fun i vo w3 => ∃ (i0 q3 : Nat) (Ar : Option Addr) (cr : Nat), i0 ≤ Lc.length ∧ i = .int .i64 i0 ∧ vo = .slice Ar q3 cr ∧ q3 ≤ q + i0 * 1000 ∧ Hid (q3 = (R0 ++ rr ac0 F Acc.ev Lc i0).length) ∧ Hid (OwnR2 w3 wR.heap.size Ar cr (R0 ++ rr ac0 F Acc.ev Lc i0)) ∧ Hid (Ex wR w3 (fun j => j = r)) ∧ Hid (w3.heap[r]? = wN.heap[r]?)) (fun i _ _ => Lc.length - (intOf i).toNat)
          case atStart => exact ⟨0, q, Ar, cr, Nat.zero_le _, rfl, rfl, by omega, Lib.hid (by have := HQQ.out; simp [rr, this]), Lib.hid (by have := HON.out; simpa [rr] using this), HXN, rfl⟩
          case round =>
            obtain ⟨i0, q3, Ar, cr, hi0, rfl, rfl, hq3, HQ3, HO3, HX3, HR3⟩ := hrel
            by_cases hlt : i0 < Lc.length
            · obtain ⟨a, ha⟩ : ∃ a, Lc[i0]? = some a := ⟨_, List.getElem?_eq_getElem hlt⟩
              obtain ⟨gl, capl, hvl, hbl, hll⟩ := World.ownsRow.form HROW.out (by omega)
              have hAv : Av = some ⟨gl, 0, none⟩ := by injection hvl
              subst hAv
              have hglr := HVV.out gl rfl
              have hs3 := HX3.out.size
              have hce : ∀ (W : World), Ex wR W (fun j => j = r) → ∀ (j : Nat) v, wR.cell? ⟨gl, j, none⟩ = some v → W.cell? ⟨gl, j, none⟩ = some v := fun W hW j v hv => (hW.cell (p := ⟨gl, j, none⟩) hll (by show gl ≠ r; omega)).trans hv
              have HLC : Hid (∀ (W : World), Ex wR W (fun j => j = r) → ∀ (i : Nat) (b : Acc), Lc[i]? = some b → W.cell? ⟨gl, i * 5, none⟩ = some (.int .i64 (b.ev : Int)) ∧ W.cell? ⟨gl, i * 5 + 1, none⟩ = some (.int .i64 b.th) ∧ W.cell? ⟨gl, i * 5 + 2, none⟩ = some (.int .u64 b.ad) ∧ W.cell? ⟨gl, i * 5 + 3, none⟩ = some (.bool b.wr) ∧ W.cell? ⟨gl, i * 5 + 4, none⟩ = some (.bool b.pl)) := fun W hW i b hb => by
                obtain ⟨h0, h1, h2, h3, h4⟩ := OwnA.at_ (show OwnA wR w2.heap.size (some ⟨gl, 0, none⟩) cv Lc from HROW.out) hb
                exact ⟨hce W hW _ _ h0, hce W hW _ _ h1, hce W hW _ _ h2, hce W hW _ _ h3, hce W hW _ _ h4⟩
              obtain ⟨c0, c1, c2, c3, c4⟩ := HLC.out wr HX3.out _ _ ha
              have HAT := Lib.hid ha
              have i1 : (0 : Int) ≤ (i0 : Int) := by omega
              have i2 : (i0 : Int) < (Lc.length : Int) := by omega
              have i3 : (i0 : Int) + 1 ≤ (Lc.length : Int) := by omega
              clear ha hce hvl
              obtain ⟨w4, hw4⟩ : ∃ w4, w4 = wr.alloc (.cells #[.int .i64 (a.ev : Int), .int .i64 a.th, .int .u64 a.ad, .bool a.wr, .bool a.pl] 83) := ⟨_, rfl⟩
              have hga : w4.heap[wr.heap.size]? = some (.cells (acell a).toArray 83 (0, 0)) := by rw [hw4]; exact heap_at _ _ _ rfl
              have hE4 : Ex wr w4 (fun _ => False) := by rw [hw4]; exact (Ex.refl wr _).alloc _
              have hs4 : w4.heap.size = wr.heap.size + 1 := by rw [hw4]; simp
              have HX4 : Hid (Ex wR w4 (fun j => j = r)) := HX3.out.trans (hE4.grow (S' := fun j => j = r) fun _ h => h.elim) (fun j _ h => h)
              have HO4 : Hid (OwnR2 w4 wR.heap.size Ar cr (R0 ++ rr ac0 F Acc.ev Lc i0)) := own_keep HO3.out fun g hg => hE4.block g (World.ownsRow.lt HO3.out g hg).2 (fun h => h)
              have HR4 : Hid (w4.heap[r]? = wN.heap[r]?) := (hE4.block r (by omega) (fun h => h)).trans HR3.out
              have HN4 : Hid (∀ k, (Value.slice Ar q3 cr).ownBlock = some k → k ≠ wr.heap.size) := fun k hk e => by
                have := (World.ownsRow.lt HO3.out k (by rw [← HQ3.out]; exact hk)).2
                omega
              have HGA := Lib.hid hga
              have HW4 := Lib.hid hw4
              have HS4 := Lib.hid hs4
              clear hga hw4 hE4 hs4 HO3 HX3 HR3 HON HXN
              by_cases hcv : cv = i0 + 1
              · have hd0 : Lc.length - (i0 + 1) = 0 := by omega
                go_wp2
                go_step3
                go_wp2
                go_step3
                go_wp2
                rw [← HW4.out]
                clear HW4 c0 c1 c2 c3 c4
                go_loopw [55, 8] (fun i vo w5 => i = .int .i64 0 ∧ vo = .slice Ar q3 cr ∧ w5 = w4) (fun _ _ _ => 0)
                case atStart => exact ⟨rfl, rfl, rfl⟩
                case round =>
                  obtain ⟨rfl, rfl, rfl⟩ := hrel
                  have hrs : rr ac0 F Acc.ev Lc (i0 + 1) = rr ac0 F Acc.ev Lc i0 := by
                    show rr ac0 F Acc.ev Lc i0 ++ rc ac0 F Acc.ev Lc i0 (Lc.length - (i0 + 1)) = _
                    rw [hd0]
                    simp [rc]
                  rw [← hrs] at HQ3 HO4
                  have hq5 : q3 ≤ q + (i0 + 1) * 1000 := by omega
                  clear hrs HGA HN4 hcv hd0
                  go_wp2
                  simp only [Exit.noGoto, Exit.inBlock, Exit.then]
                  go_wp2
                  go_roundw
                  case rel => exact ⟨i0 + 1, q3, Ar, cr, hlt, by go_num, rfl, hq5, HQ3, HO4, HX4, HR4⟩
                  case measure => simp [intOf]; omega
              · go_wp2
                go_step3
                go_wp2
                go_step3
                go_wp2
                rw [← HW4.out]
                clear HW4 c0 c1 c2 c3 c4
                generalize hd4 : Lc.length - (i0 + 1) = d4
                generalize ho4 : (i0 + 1) * 5 = o4
                generalize cv - (i0 + 1) = c4v
                have HDD := Lib.hid (show d4 = Lc.length - (i0 + 1) ∧ d4 ≤ 1000 by omega)
                have HOO := Lib.hid (show ∀ j, (i0 + 1 + j) * 5 = o4 + j * 5 by intro j; omega)
                clear hd4 ho4
                generalize wr.heap.size = gc at *
                have hdb := HDD.out.2
                go_loopw [55, 8] (fun i vo w5 => ∃ (j q4 : Nat) (Ar : Option Addr) (cr : Nat), j ≤ d4 ∧ i = .int .i64 j ∧ vo = .slice Ar q4 cr ∧ q4 ≤ q3 + j ∧ Hid (q4 = (R0 ++ rr ac0 F Acc.ev Lc i0 ++ rc ac0 F Acc.ev Lc i0 j).length) ∧ Hid (OwnR2 w5 wR.heap.size Ar cr (R0 ++ rr ac0 F Acc.ev Lc i0 ++ rc ac0 F Acc.ev Lc i0 j)) ∧ Hid (Ex wR w5 (fun j => j = r)) ∧ Hid (w5.heap[r]? = wN.heap[r]?) ∧ Hid (w5.heap[gc]? = some (.cells (acell a).toArray 83 (0, 0)) ∧ gc < w5.heap.size) ∧ Hid (∀ k, (Value.slice Ar q4 cr).ownBlock = some k → k ≠ gc)) (fun i _ _ => d4 - (intOf i).toNat)
                case atStart => exact ⟨0, q3, Ar, cr, Nat.zero_le _, rfl, rfl, by omega, Lib.hid (by have := HQ3.out; simpa [rc] using this), Lib.hid (by have := HO4.out; simpa [rc] using this), HX4, HR4, ⟨HGA.out, by have := HS4.out; omega⟩, HN4⟩
                case round =>
                  clear HO4 HX4 HR4 HN4 HGA HQ3
                  obtain ⟨j, q4, Ar, cr, hj, rfl, rfl, hq4, HQ4, HO4, HX4, HR4, HGA, HN4⟩ := hrel
                  by_cases hlt4 : j < d4
                  · as_aux_lemma =>
                      obtain ⟨b, hb⟩ : ∃ b, Lc[i0 + 1 + j]? = some b := ⟨_, List.getElem?_eq_getElem (by have := HDD.out.1; omega)⟩
                      obtain ⟨c0, c1, c2, c3, c4⟩ := HLC.out wr HX4.out _ _ hb
                      rw [HOO.out j] at c0 c1 c2 c3 c4
                      have hma := HOC.out a (List.mem_of_getElem? HAT.out)
                      have hmb := HOC.out b (List.mem_of_getElem? hb)
                      have hpl := (ofP_lt hma.2).1
                      have hpl2 := (ofP_lt hmb.2).1
                      obtain ⟨p, hp⟩ : ∃ p : Nat, ofP l bl a.ev = (p : Int) := ⟨(ofP l bl a.ev).toNat, by have := hma.2; omega⟩
                      obtain ⟨pb, hpb⟩ : ∃ p : Nat, ofP l bl b.ev = (p : Int) := ⟨(ofP l bl b.ev).toNat, by have := hmb.2; omega⟩
                      have hpN : p < (pts l bl).length := by rw [hp] at hpl; simpa using hpl
                      have hpbN : pb < (pts l bl).length := by rw [hpb] at hpl2; simpa using hpl2
                      have hF : Hid (F a b = (!(a.th == b.th) && (a.pl || b.pl) && (a.wr || b.wr) && !aheadP l bl lk p pb && !aheadP l bl lk pb p)) := by
                        show _ = _
                        rw [HFF.out]
                        unfold raceF
                        rw [hp, hpb, Int.toNat_natCast, Int.toNat_natCast]
                      have hga : Lc.getD i0 ac0 = a := by simp [List.getD, HAT.out]
                      have hgb : Lc.getD (i0 + 1 + j) ac0 = b := by simp [List.getD, hb]
                      have HNO : Hid (F a b = false → rc ac0 F Acc.ev Lc i0 (j + 1) = rc ac0 F Acc.ev Lc i0 j) := by
                        intro hf
                        show (if F (Lc.getD i0 ac0) (Lc.getD (i0 + 1 + j) ac0) = true then _ else _) = _
                        rw [hga, hgb, hf]
                        rfl
                      have HYES : Hid (F a b = true → rc ac0 F Acc.ev Lc i0 (j + 1) = rc ac0 F Acc.ev Lc i0 j ++ [(a.ev, b.ev)]) := by
                        intro hf
                        show (if F (Lc.getD i0 ac0) (Lc.getD (i0 + 1 + j) ac0) = true then _ else _) = _
                        rw [hga, hgb, hf]
                        rfl
                      obtain ⟨w6, hw6⟩ : ∃ w6, w6 = wr.alloc (.cells #[.int .i64 (b.ev : Int), .int .i64 b.th, .int .u64 b.ad, .bool b.wr, .bool b.pl] 83) := ⟨_, rfl⟩
                      have hgb6 : w6.heap[wr.heap.size]? = some (.cells (acell b).toArray 83 (0, 0)) := by rw [hw6]; exact heap_at _ _ _ rfl
                      have hE6 : Ex wr w6 (fun _ => False) := by rw [hw6]; exact (Ex.refl wr _).alloc _
                      have hs6 : w6.heap.size = wr.heap.size + 1 := by rw [hw6]; simp
                      have hs5 := HX4.out.size
                      have HX6 : Hid (Ex wR w6 (fun j => j = r)) := HX4.out.trans (hE6.grow (S' := fun j => j = r) fun _ h => h.elim) (fun j _ h => h)
                      have HO6 : Hid (OwnR2 w6 wR.heap.size Ar cr (R0 ++ rr ac0 F Acc.ev Lc i0 ++ rc ac0 F Acc.ev Lc i0 j)) := own_keep HO4.out fun g hg => hE6.block g (World.ownsRow.lt HO4.out g hg).2 (fun h => h)
                      have HR6 : Hid (w6.heap[r]? = wN.heap[r]?) := (hE6.block r (by omega) (fun h => h)).trans HR4.out
                      have HG6 : Hid (w6.heap[gc]? = some (.cells (acell a).toArray 83 (0, 0)) ∧ gc < w6.heap.size) := ⟨(hE6.block gc HGA.out.2 (fun h => h)).trans HGA.out.1, by have := HGA.out.2; omega⟩
                      have HB6 := Lib.hid hgb6
                      have hbel : Below w.heap.size w w6 := HX6.out.below (HER.out.below HB2.out (fun j hj => by omega) (by have := HER.out.size; omega)) (fun j hj => by have := HER.out.size; omega) (by have := HER.out.size; omega)
                      have HW6 := Lib.hid (HW.out.below (hbel.mono hhi))
                      have HAH := Lib.hid (fun (W : World) (hb : Below hi w6 W) (p q : Nat) (hp : p < (pts l bl).length) (hq : q < (pts l bl).length) => aheadW_any hi gW gF Ap cp Ab cb hd l bl lk sn tn W (HW6.out.below hb) HBK.out p q hp hq)
                      have hc1 := HW6.out.c1
                      have hofa := HW6.out.of a.ev hma.1
                      have hofb := HW6.out.of b.ev hmb.1
                      rw [hp] at hofa
                      rw [hpb] at hofb
                      have x0 : w6.cell? ⟨gc, 0, none⟩ = some (.int .i64 (a.ev : Int)) := by rw [cell_of_row _ _ 0 _ 83 (0, 0) HG6.out.1]; rfl
                      have x1 : w6.cell? ⟨gc, 1, none⟩ = some (.int .i64 a.th) := by rw [cell_of_row _ _ 1 _ 83 (0, 0) HG6.out.1]; rfl
                      have x3 : w6.cell? ⟨gc, 3, none⟩ = some (.bool a.wr) := by rw [cell_of_row _ _ 3 _ 83 (0, 0) HG6.out.1]; rfl
                      have x4 : w6.cell? ⟨gc, 4, none⟩ = some (.bool a.pl) := by rw [cell_of_row _ _ 4 _ 83 (0, 0) HG6.out.1]; rfl
                      have y0 : w6.cell? ⟨wr.heap.size, 0, none⟩ = some (.int .i64 (b.ev : Int)) := by rw [cell_of_row _ _ 0 _ 83 (0, 0) hgb6]; rfl
                      have y1 : w6.cell? ⟨wr.heap.size, 1, none⟩ = some (.int .i64 b.th) := by rw [cell_of_row _ _ 1 _ 83 (0, 0) hgb6]; rfl
                      have y3 : w6.cell? ⟨wr.heap.size, 3, none⟩ = some (.bool b.wr) := by rw [cell_of_row _ _ 3 _ 83 (0, 0) hgb6]; rfl
                      have y4 : w6.cell? ⟨wr.heap.size, 4, none⟩ = some (.bool b.pl) := by rw [cell_of_row _ _ 4 _ 83 (0, 0) hgb6]; rfl
                      have i4 : (0 : Int) ≤ (j : Int) := by omega
                      have i5 : (j : Int) < (d4 : Int) := by omega
                      have i6 : (0 : Int) ≤ (a.ev : Int) := by omega
                      have i7 : (a.ev : Int) < (l.length : Int) := by have := hma.1; omega
                      have i8 : (0 : Int) ≤ (b.ev : Int) := by omega
                      have i9 : (b.ev : Int) < (l.length : Int) := by have := hmb.1; omega
                      have HW6E := Lib.hid hw6
                      clear hb hma hmb hpl hpl2 hp hpb hga hgb hw6 hgb6 hE6 hs6 hbel HX4 HO4 HR4 HGA
                      go_upto_region 17 with fail
                      rw [← HW6E.out]
                      clear c0 c1 c2 c3 c4 HW6E
                      by_cases hth : a.th = b.th
                      · have k1 : (a.th == b.th) = true := by simpa using hth
                        rw [← hth] at y1
                        have HK0 := Lib.hid k1
                        clear k1 hth
                        go_wp2
                        have hf : F a b = false := by rw [hF.out, HK0.out]; simp
                        have hsm := Sm.refl w6
                        have hrc := HNO.out hf
                        have HQ5 : Hid (q4 = (R0 ++ rr ac0 F Acc.ev Lc i0 ++ rc ac0 F Acc.ev Lc i0 (j + 1)).length) := by rw [hrc]; exact HQ4
                        have HO5 : Hid (OwnR2 w6 wR.heap.size Ar cr (R0 ++ rr ac0 F Acc.ev Lc i0 ++ rc ac0 F Acc.ev Lc i0 (j + 1))) := by
                          rw [hrc]
                          exact own_keep HO6.out fun g hg => by rw [hsm.heap]
                        have HX5 := Lib.hid (HX6.out.sm hsm)
                        have HR5 : Hid ((w6).heap[r]? = wN.heap[r]?) := by rw [hsm.heap]; exact HR6
                        have HG5 : Hid ((w6).heap[gc]? = some (.cells (acell a).toArray 83 (0, 0)) ∧ gc < (w6).heap.size) := by rw [hsm.heap]; exact HG6
                        clear hsm hrc hf
                        go_roundw
                        case rel => exact ⟨j + 1, q4, Ar, cr, hlt4, by go_num, rfl, by omega, HQ5, HO5, HX5, HR5, HG5, HN4⟩
                        case measure => simp [intOf]; omega
                      · have HK1 : Hid ((a.th == b.th) = false) := by
                          show (a.th == b.th) = false
                          simpa using hth
                        obtain ⟨ta, hta⟩ : ∃ t, t = a.th := ⟨_, rfl⟩
                        obtain ⟨tb, htb⟩ : ∃ t, t = b.th := ⟨_, rfl⟩
                        have k1 : (ta == tb) = false := by
                          rw [hta, htb]
                          exact HK1.out
                        rw [← hta] at x1
                        rw [← htb] at y1
                        clear hth hta htb
                        rcases Bool.eq_false_or_eq_true a.pl with pa | pa
                        · rw [pa] at x4
                          have HPA := Lib.hid pa
                          clear pa
                          rcases Bool.eq_false_or_eq_true a.wr with wa | wa
                          · rw [wa] at x3
                            have HWA := Lib.hid wa
                            clear wa
                            go_wp2
                            go_quiet (fail)
                            have HSM7 : Hid (Sm w6 (w6.drewN nq)) := ⟨rfl, rfl, rfl, rfl⟩
                            clear x1 x3 x4 y1 y3 y4 hc1 hofa hofb x0 y0
                            generalize w6.drewN nq = w7 at *
                            have HA7 := Lib.hid (HAH.out w7 (HSM7.out.below hi) p pb hpN hpbN)
                            go_wp2_with (go_at_call 88; refine halt_ ?_)
                            refine Halt_.go ?_
                            refine HA7.out.mono ?_
                            rintro e7 w8 ⟨rfl, m8, hm8⟩
                            have HSM8 : Hid (Sm w6 w8) := by
                              have h7 := HSM7.out
                              rw [hm8]
                              exact ⟨h7.heap, h7.os, h7.tape, h7.output⟩
                            clear hm8
                            rcases Bool.eq_false_or_eq_true (aheadP l bl lk p pb) with hb1 | hb1
                            · rw [hb1]
                              have HH1 := Lib.hid hb1
                              clear hb1
                              go_wp2
                              have hf : F a b = false := by rw [hF.out, HH1.out]; simp
                              have hsm := HSM8.out
                              have hrc := HNO.out hf
                              have HQ5 : Hid (q4 = (R0 ++ rr ac0 F Acc.ev Lc i0 ++ rc ac0 F Acc.ev Lc i0 (j + 1)).length) := by rw [hrc]; exact HQ4
                              have HO5 : Hid (OwnR2 w8 wR.heap.size Ar cr (R0 ++ rr ac0 F Acc.ev Lc i0 ++ rc ac0 F Acc.ev Lc i0 (j + 1))) := by
                                rw [hrc]
                                exact own_keep HO6.out fun g hg => by rw [hsm.heap]
                              have HX5 := Lib.hid (HX6.out.sm hsm)
                              have HR5 : Hid ((w8).heap[r]? = wN.heap[r]?) := by rw [hsm.heap]; exact HR6
                              have HG5 : Hid ((w8).heap[gc]? = some (.cells (acell a).toArray 83 (0, 0)) ∧ gc < (w8).heap.size) := by rw [hsm.heap]; exact HG6
                              clear hsm hrc hf
                              go_roundw
                              case rel => exact ⟨j + 1, q4, Ar, cr, hlt4, by go_num, rfl, by omega, HQ5, HO5, HX5, HR5, HG5, HN4⟩
                              case measure => simp [intOf]; omega
                            · rw [hb1]
                              have HH1 := Lib.hid hb1
                              clear hb1
                              have HA8 := Lib.hid (HAH.out w8 (HSM8.out.below hi) pb p hpbN hpN)
                              go_wp2_with (go_at_call 88; refine halt_ ?_)
                              refine Halt_.go ?_
                              refine HA8.out.mono ?_
                              rintro e8 w9 ⟨rfl, m9, hm9⟩
                              have HSM9 : Hid (Sm w6 w9) := by
                                have h8 := HSM8.out
                                rw [hm9]
                                exact ⟨h8.heap, h8.os, h8.tape, h8.output⟩
                              clear hm9
                              rcases Bool.eq_false_or_eq_true (aheadP l bl lk pb p) with hb2 | hb2
                              · rw [hb2]
                                have HH2 := Lib.hid hb2
                                clear hb2
                                go_wp2
                                have hf : F a b = false := by rw [hF.out, HH1.out, HH2.out]; simp
                                have hsm := HSM9.out
                                have hrc := HNO.out hf
                                have HQ5 : Hid (q4 = (R0 ++ rr ac0 F Acc.ev Lc i0 ++ rc ac0 F Acc.ev Lc i0 (j + 1)).length) := by rw [hrc]; exact HQ4
                                have HO5 : Hid (OwnR2 w9 wR.heap.size Ar cr (R0 ++ rr ac0 F Acc.ev Lc i0 ++ rc ac0 F Acc.ev Lc i0 (j + 1))) := by
                                  rw [hrc]
                                  exact own_keep HO6.out fun g hg => by rw [hsm.heap]
                                have HX5 := Lib.hid (HX6.out.sm hsm)
                                have HR5 : Hid ((w9).heap[r]? = wN.heap[r]?) := by rw [hsm.heap]; exact HR6
                                have HG5 : Hid ((w9).heap[gc]? = some (.cells (acell a).toArray 83 (0, 0)) ∧ gc < (w9).heap.size) := by rw [hsm.heap]; exact HG6
                                clear hsm hrc hf
                                go_roundw
                                case rel => exact ⟨j + 1, q4, Ar, cr, hlt4, by go_num, rfl, by omega, HQ5, HO5, HX5, HR5, HG5, HN4⟩
                                case measure => simp [intOf]; omega
                              · rw [hb2]
                                have HH2 := Lib.hid hb2
                                clear hb2
                                have hf : F a b = true := by rw [hF.out, HH1.out, HH2.out]; simp [HK1.out, HPA.out, HWA.out]
                                have hrc := HYES.out hf
                                have hg9 := HG6.out
                                rw [← HSM9.out.heap] at hg9
                                have hb9 := HB6.out
                                rw [← HSM9.out.heap] at hb9
                                have y0 : w9.cell? ⟨gc, 0, none⟩ = some (.int .i64 (a.ev : Int)) := by rw [cell_of_row _ _ 0 _ 83 (0, 0) hg9.1]; rfl
                                have z0 : w9.cell? ⟨wr.heap.size, 0, none⟩ = some (.int .i64 (b.ev : Int)) := by rw [cell_of_row _ _ 0 _ 83 (0, 0) hb9]; rfl
                                have hO9 : OwnR2 w9 wR.heap.size Ar cr (R0 ++ rr ac0 F Acc.ev Lc i0 ++ rc ac0 F Acc.ev Lc i0 j) := own_keep HO6.out fun g hg => by rw [HSM9.out.heap]
                                have hrow9 : w9.ownsRow wR.heap.size 85 2 (.slice Ar q4 cr) q4 ((R0 ++ rr ac0 F Acc.ev Lc i0 ++ rc ac0 F Acc.ev Lc i0 j).flatMap rcell) := by rw [HQ4.out]; exact hO9
                                have HRW := Lib.hid hrow9
                                have HGC := Lib.hid hg9
                                have HX9 := Lib.hid (HX6.out.sm HSM9.out)
                                have HR9 : Hid (w9.heap[r]? = wN.heap[r]?) := by rw [HSM9.out.heap]; exact HR6
                                have hs9 := HX9.out.size
                                have hgc9 := hg9.2
                                clear hg9 hb9 hO9 hrow9 HA7 HA8 hf HSM7 HSM8
                                go_upto_region 20 with fail
                                go_wp2_with (at_builtin; refine halt_ ?_)
                                refine Halt_.go ?_
                                refine wl_append_two _ (by rfl) (.tmp 112) (.tmp 118) 73 (by rfl) wR.heap.size 85 _ 2 16 info85 Try.underlying73 rfl (by decide) (.slice Ar q4 cr) q4 ((R0 ++ rr ac0 F Acc.ev Lc i0 ++ rc ac0 F Acc.ev Lc i0 j).flatMap rcell) (by rfl) (HRW.out.alloc _) w9.heap.size 1 [.int .i64 (a.ev : Int), .int .i64 (b.ev : Int)] (by rfl) (heap_at _ _ _ rfl) rfl (by simp [Value.oneCell']) (by omega) (by omega) (by simp; omega) ?_
                                intro g9 cap2 w10 hown hlt10 htwo
                                have hgr := grown_trans (World.grownBy_alloc w9 _ _) (two_grown htwo)
                                have hOA : OwnR2 w10 wR.heap.size (some ⟨g9, 0, none⟩) cap2 ((R0 ++ rr ac0 F Acc.ev Lc i0 ++ rc ac0 F Acc.ev Lc i0 j) ++ [(a.ev, b.ev)]) := by
                                  unfold OwnR2
                                  rw [List.length_append, List.flatMap_append, ← HQ4.out]
                                  exact hown
                                rw [List.append_assoc, ← hrc] at hOA
                                have HO5 := Lib.hid hOA
                                have HQ5 : Hid (q4 + 1 = (R0 ++ rr ac0 F Acc.ev Lc i0 ++ rc ac0 F Acc.ev Lc i0 (j + 1)).length) := by
                                  have := HQ4.out
                                  show q4 + 1 = _
                                  rw [hrc, ← List.append_assoc, List.length_append, ← this]
                                  rfl
                                have hbk : ∀ k, k < w9.heap.size → ¬ (Value.slice Ar q4 cr).ownBlock = some k → w10.heap[k]? = w9.heap[k]? := fun k hk hn => hgr.block k hk (fun e => hn e.symm)
                                have HX5 := Lib.hid (HX9.out.grown hgr (fun k h1 h2 => absurd (World.ownsRow.lt HRW.out k h1).1 (by omega)))
                                have HR5 : Hid (w10.heap[r]? = wN.heap[r]?) := (hbk r (by omega) (fun e => by have := (World.ownsRow.lt HRW.out r e).1; omega)).trans HR9.out
                                have HG5 : Hid (w10.heap[gc]? = some (.cells (acell a).toArray 83 (0, 0)) ∧ gc < w10.heap.size) := ⟨(hbk gc hgc9 (fun e => HN4.out gc e rfl)).trans HGC.out.1, by have := hgr.size; omega⟩
                                have HN5 : Hid (∀ k, (Value.slice (some ⟨g9, 0, none⟩) (q4 + 1) cap2).ownBlock = some k → k ≠ gc) := fun k hk e => by
                                  have e1 : g9 = k := Option.some.inj hk
                                  rcases htwo with h | h
                                  · exact HN4.out k (by rw [h.1, e1]) e
                                  · have h1 := h.1
                                    simp at h1
                                    omega
                                clear hrc hown hlt10 htwo hgr hOA hbk y0 z0
                                go_wp2
                                go_roundw
                                case rel => exact ⟨j + 1, q4 + 1, some ⟨g9, 0, none⟩, cap2, hlt4, by go_num, rfl, by omega, HQ5, HO5, HX5, HR5, HG5, HN5⟩
                                case measure => simp [intOf]; omega
                          · rw [wa] at x3
                            have HWA := Lib.hid wa
                            clear wa
                            rcases Bool.eq_false_or_eq_true b.wr with wb | wb
                            · rw [wb] at y3
                              have HWB := Lib.hid wb
                              clear wb
                              go_wp2
                              go_quiet (fail)
                              have HSM7 : Hid (Sm w6 (w6.drewN nq)) := ⟨rfl, rfl, rfl, rfl⟩
                              clear x1 x3 x4 y1 y3 y4 hc1 hofa hofb x0 y0
                              generalize w6.drewN nq = w7 at *
                              have HA7 := Lib.hid (HAH.out w7 (HSM7.out.below hi) p pb hpN hpbN)
                              go_wp2_with (go_at_call 88; refine halt_ ?_)
                              refine Halt_.go ?_
                              refine HA7.out.mono ?_
                              rintro e7 w8 ⟨rfl, m8, hm8⟩
                              have HSM8 : Hid (Sm w6 w8) := by
                                have h7 := HSM7.out
                                rw [hm8]
                                exact ⟨h7.heap, h7.os, h7.tape, h7.output⟩
                              clear hm8
                              rcases Bool.eq_false_or_eq_true (aheadP l bl lk p pb) with hb1 | hb1
                              · rw [hb1]
                                have HH1 := Lib.hid hb1
                                clear hb1
                                go_wp2
                                have hf : F a b = false := by rw [hF.out, HH1.out]; simp
                                have hsm := HSM8.out
                                have hrc := HNO.out hf
                                have HQ5 : Hid (q4 = (R0 ++ rr ac0 F Acc.ev Lc i0 ++ rc ac0 F Acc.ev Lc i0 (j + 1)).length) := by rw [hrc]; exact HQ4
                                have HO5 : Hid (OwnR2 w8 wR.heap.size Ar cr (R0 ++ rr ac0 F Acc.ev Lc i0 ++ rc ac0 F Acc.ev Lc i0 (j + 1))) := by
                                  rw [hrc]
                                  exact own_keep HO6.out fun g hg => by rw [hsm.heap]
                                have HX5 := Lib.hid (HX6.out.sm hsm)
                                have HR5 : Hid ((w8).heap[r]? = wN.heap[r]?) := by rw [hsm.heap]; exact HR6
                                have HG5 : Hid ((w8).heap[gc]? = some (.cells (acell a).toArray 83 (0, 0)) ∧ gc < (w8).heap.size) := by rw [hsm.heap]; exact HG6
                                clear hsm hrc hf
                                go_roundw
                                case rel => exact ⟨j + 1, q4, Ar, cr, hlt4, by go_num, rfl, by omega, HQ5, HO5, HX5, HR5, HG5, HN4⟩
                                case measure => simp [intOf]; omega
                              · rw [hb1]
                                have HH1 := Lib.hid hb1
                                clear hb1
                                have HA8 := Lib.hid (HAH.out w8 (HSM8.out.below hi) pb p hpbN hpN)
                                go_wp2_with (go_at_call 88; refine halt_ ?_)
                                refine Halt_.go ?_
                                refine HA8.out.mono ?_
                                rintro e8 w9 ⟨rfl, m9, hm9⟩
                                have HSM9 : Hid (Sm w6 w9) := by
                                  have h8 := HSM8.out
                                  rw [hm9]
                                  exact ⟨h8.heap, h8.os, h8.tape, h8.output⟩
                                clear hm9
                                rcases Bool.eq_false_or_eq_true (aheadP l bl lk pb p) with hb2 | hb2
                                · rw [hb2]
                                  have HH2 := Lib.hid hb2
                                  clear hb2
                                  go_wp2
                                  have hf : F a b = false := by rw [hF.out, HH1.out, HH2.out]; simp
                                  have hsm := HSM9.out
                                  have hrc := HNO.out hf
                                  have HQ5 : Hid (q4 = (R0 ++ rr ac0 F Acc.ev Lc i0 ++ rc ac0 F Acc.ev Lc i0 (j + 1)).length) := by rw [hrc]; exact HQ4
                                  have HO5 : Hid (OwnR2 w9 wR.heap.size Ar cr (R0 ++ rr ac0 F Acc.ev Lc i0 ++ rc ac0 F Acc.ev Lc i0 (j + 1))) := by
                                    rw [hrc]
                                    exact own_keep HO6.out fun g hg => by rw [hsm.heap]
                                  have HX5 := Lib.hid (HX6.out.sm hsm)
                                  have HR5 : Hid ((w9).heap[r]? = wN.heap[r]?) := by rw [hsm.heap]; exact HR6
                                  have HG5 : Hid ((w9).heap[gc]? = some (.cells (acell a).toArray 83 (0, 0)) ∧ gc < (w9).heap.size) := by rw [hsm.heap]; exact HG6
                                  clear hsm hrc hf
                                  go_roundw
                                  case rel => exact ⟨j + 1, q4, Ar, cr, hlt4, by go_num, rfl, by omega, HQ5, HO5, HX5, HR5, HG5, HN4⟩
                                  case measure => simp [intOf]; omega
                                · rw [hb2]
                                  have HH2 := Lib.hid hb2
                                  clear hb2
                                  have hf : F a b = true := by rw [hF.out, HH1.out, HH2.out]; simp [HK1.out, HPA.out, HWA.out, HWB.out]
                                  have hrc := HYES.out hf
                                  have hg9 := HG6.out
                                  rw [← HSM9.out.heap] at hg9
                                  have hb9 := HB6.out
                                  rw [← HSM9.out.heap] at hb9
                                  have y0 : w9.cell? ⟨gc, 0, none⟩ = some (.int .i64 (a.ev : Int)) := by rw [cell_of_row _ _ 0 _ 83 (0, 0) hg9.1]; rfl
                                  have z0 : w9.cell? ⟨wr.heap.size, 0, none⟩ = some (.int .i64 (b.ev : Int)) := by rw [cell_of_row _ _ 0 _ 83 (0, 0) hb9]; rfl
                                  have hO9 : OwnR2 w9 wR.heap.size Ar cr (R0 ++ rr ac0 F Acc.ev Lc i0 ++ rc ac0 F Acc.ev Lc i0 j) := own_keep HO6.out fun g hg => by rw [HSM9.out.heap]
                                  have hrow9 : w9.ownsRow wR.heap.size 85 2 (.slice Ar q4 cr) q4 ((R0 ++ rr ac0 F Acc.ev Lc i0 ++ rc ac0 F Acc.ev Lc i0 j).flatMap rcell) := by rw [HQ4.out]; exact hO9
                                  have HRW := Lib.hid hrow9
                                  have HGC := Lib.hid hg9
                                  have HX9 := Lib.hid (HX6.out.sm HSM9.out)
                                  have HR9 : Hid (w9.heap[r]? = wN.heap[r]?) := by rw [HSM9.out.heap]; exact HR6
                                  have hs9 := HX9.out.size
                                  have hgc9 := hg9.2
                                  clear hg9 hb9 hO9 hrow9 HA7 HA8 hf HSM7 HSM8
                                  go_upto_region 20 with fail
                                  go_wp2_with (at_builtin; refine halt_ ?_)
                                  refine Halt_.go ?_
                                  refine wl_append_two _ (by rfl) (.tmp 112) (.tmp 118) 73 (by rfl) wR.heap.size 85 _ 2 16 info85 Try.underlying73 rfl (by decide) (.slice Ar q4 cr) q4 ((R0 ++ rr ac0 F Acc.ev Lc i0 ++ rc ac0 F Acc.ev Lc i0 j).flatMap rcell) (by rfl) (HRW.out.alloc _) w9.heap.size 1 [.int .i64 (a.ev : Int), .int .i64 (b.ev : Int)] (by rfl) (heap_at _ _ _ rfl) rfl (by simp [Value.oneCell']) (by omega) (by omega) (by simp; omega) ?_
                                  intro g9 cap2 w10 hown hlt10 htwo
                                  have hgr := grown_trans (World.grownBy_alloc w9 _ _) (two_grown htwo)
                                  have hOA : OwnR2 w10 wR.heap.size (some ⟨g9, 0, none⟩) cap2 ((R0 ++ rr ac0 F Acc.ev Lc i0 ++ rc ac0 F Acc.ev Lc i0 j) ++ [(a.ev, b.ev)]) := by
                                    unfold OwnR2
                                    rw [List.length_append, List.flatMap_append, ← HQ4.out]
                                    exact hown
                                  rw [List.append_assoc, ← hrc] at hOA
                                  have HO5 := Lib.hid hOA
                                  have HQ5 : Hid (q4 + 1 = (R0 ++ rr ac0 F Acc.ev Lc i0 ++ rc ac0 F Acc.ev Lc i0 (j + 1)).length) := by
                                    have := HQ4.out
                                    show q4 + 1 = _
                                    rw [hrc, ← List.append_assoc, List.length_append, ← this]
                                    rfl
                                  have hbk : ∀ k, k < w9.heap.size → ¬ (Value.slice Ar q4 cr).ownBlock = some k → w10.heap[k]? = w9.heap[k]? := fun k hk hn => hgr.block k hk (fun e => hn e.symm)
                                  have HX5 := Lib.hid (HX9.out.grown hgr (fun k h1 h2 => absurd (World.ownsRow.lt HRW.out k h1).1 (by omega)))
                                  have HR5 : Hid (w10.heap[r]? = wN.heap[r]?) := (hbk r (by omega) (fun e => by have := (World.ownsRow.lt HRW.out r e).1; omega)).trans HR9.out
                                  have HG5 : Hid (w10.heap[gc]? = some (.cells (acell a).toArray 83 (0, 0)) ∧ gc < w10.heap.size) := ⟨(hbk gc hgc9 (fun e => HN4.out gc e rfl)).trans HGC.out.1, by have := hgr.size; omega⟩
                                  have HN5 : Hid (∀ k, (Value.slice (some ⟨g9, 0, none⟩) (q4 + 1) cap2).ownBlock = some k → k ≠ gc) := fun k hk e => by
                                    have e1 : g9 = k := Option.some.inj hk
                                    rcases htwo with h | h
                                    · exact HN4.out k (by rw [h.1, e1]) e
                                    · have h1 := h.1
                                      simp at h1
                                      omega
                                  clear hrc hown hlt10 htwo hgr hOA hbk y0 z0
                                  go_wp2
                                  go_roundw
                                  case rel => exact ⟨j + 1, q4 + 1, some ⟨g9, 0, none⟩, cap2, hlt4, by go_num, rfl, by omega, HQ5, HO5, HX5, HR5, HG5, HN5⟩
                                  case measure => simp [intOf]; omega
                            · rw [wb] at y3
                              have HWB := Lib.hid wb
                              clear wb
                              go_wp2
                              have hf : F a b = false := by rw [hF.out, HWA.out, HWB.out, Bool.or_self, Bool.and_false, Bool.false_and, Bool.false_and]
                              have hsm := Sm.refl w6
                              have hrc := HNO.out hf
                              have HQ5 : Hid (q4 = (R0 ++ rr ac0 F Acc.ev Lc i0 ++ rc ac0 F Acc.ev Lc i0 (j + 1)).length) := by rw [hrc]; exact HQ4
                              have HO5 : Hid (OwnR2 w6 wR.heap.size Ar cr (R0 ++ rr ac0 F Acc.ev Lc i0 ++ rc ac0 F Acc.ev Lc i0 (j + 1))) := by
                                rw [hrc]
                                exact own_keep HO6.out fun g hg => by rw [hsm.heap]
                              have HX5 := Lib.hid (HX6.out.sm hsm)
                              have HR5 : Hid ((w6).heap[r]? = wN.heap[r]?) := by rw [hsm.heap]; exact HR6
                              have HG5 : Hid ((w6).heap[gc]? = some (.cells (acell a).toArray 83 (0, 0)) ∧ gc < (w6).heap.size) := by rw [hsm.heap]; exact HG6
                              clear hsm hrc hf
                              go_roundw
                              case rel => exact ⟨j + 1, q4, Ar, cr, hlt4, by go_num, rfl, by omega, HQ5, HO5, HX5, HR5, HG5, HN4⟩
                              case measure => simp [intOf]; omega
                        · rw [pa] at x4
                          have HPA := Lib.hid pa
                          clear pa
                          rcases Bool.eq_false_or_eq_true b.pl with pb' | pb'
                          · rw [pb'] at y4
                            have HPB := Lib.hid pb'
                            clear pb'
                            rcases Bool.eq_false_or_eq_true a.wr with wa | wa
                            · rw [wa] at x3
                              have HWA := Lib.hid wa
                              clear wa
                              go_wp2
                              go_quiet (fail)
                              have HSM7 : Hid (Sm w6 (w6.drewN nq)) := ⟨rfl, rfl, rfl, rfl⟩
                              clear x1 x3 x4 y1 y3 y4 hc1 hofa hofb x0 y0
                              generalize w6.drewN nq = w7 at *
                              have HA7 := Lib.hid (HAH.out w7 (HSM7.out.below hi) p pb hpN hpbN)
                              go_wp2_with (go_at_call 88; refine halt_ ?_)
                              refine Halt_.go ?_
                              refine HA7.out.mono ?_
                              rintro e7 w8 ⟨rfl, m8, hm8⟩
                              have HSM8 : Hid (Sm w6 w8) := by
                                have h7 := HSM7.out
                                rw [hm8]
                                exact ⟨h7.heap, h7.os, h7.tape, h7.output⟩
                              clear hm8
                              rcases Bool.eq_false_or_eq_true (aheadP l bl lk p pb) with hb1 | hb1
                              · rw [hb1]
                                have HH1 := Lib.hid hb1
                                clear hb1
                                go_wp2
                                have hf : F a b = false := by rw [hF.out, HH1.out]; simp
                                have hsm := HSM8.out
                                have hrc := HNO.out hf
                                have HQ5 : Hid (q4 = (R0 ++ rr ac0 F Acc.ev Lc i0 ++ rc ac0 F Acc.ev Lc i0 (j + 1)).length) := by rw [hrc]; exact HQ4
                                have HO5 : Hid (OwnR2 w8 wR.heap.size Ar cr (R0 ++ rr ac0 F Acc.ev Lc i0 ++ rc ac0 F Acc.ev Lc i0 (j + 1))) := by
                                  rw [hrc]
                                  exact own_keep HO6.out fun g hg => by rw [hsm.heap]
                                have HX5 := Lib.hid (HX6.out.sm hsm)
                                have HR5 : Hid ((w8).heap[r]? = wN.heap[r]?) := by rw [hsm.heap]; exact HR6
                                have HG5 : Hid ((w8).heap[gc]? = some (.cells (acell a).toArray 83 (0, 0)) ∧ gc < (w8).heap.size) := by rw [hsm.heap]; exact HG6
                                clear hsm hrc hf
                                go_roundw
                                case rel => exact ⟨j + 1, q4, Ar, cr, hlt4, by go_num, rfl, by omega, HQ5, HO5, HX5, HR5, HG5, HN4⟩
                                case measure => simp [intOf]; omega
                              · rw [hb1]
                                have HH1 := Lib.hid hb1
                                clear hb1
                                have HA8 := Lib.hid (HAH.out w8 (HSM8.out.below hi) pb p hpbN hpN)
                                go_wp2_with (go_at_call 88; refine halt_ ?_)
                                refine Halt_.go ?_
                                refine HA8.out.mono ?_
                                rintro e8 w9 ⟨rfl, m9, hm9⟩
                                have HSM9 : Hid (Sm w6 w9) := by
                                  have h8 := HSM8.out
                                  rw [hm9]
                                  exact ⟨h8.heap, h8.os, h8.tape, h8.output⟩
                                clear hm9
                                rcases Bool.eq_false_or_eq_true (aheadP l bl lk pb p) with hb2 | hb2
                                · rw [hb2]
                                  have HH2 := Lib.hid hb2
                                  clear hb2
                                  go_wp2
                                  have hf : F a b = false := by rw [hF.out, HH1.out, HH2.out]; simp
                                  have hsm := HSM9.out
                                  have hrc := HNO.out hf
                                  have HQ5 : Hid (q4 = (R0 ++ rr ac0 F Acc.ev Lc i0 ++ rc ac0 F Acc.ev Lc i0 (j + 1)).length) := by rw [hrc]; exact HQ4
                                  have HO5 : Hid (OwnR2 w9 wR.heap.size Ar cr (R0 ++ rr ac0 F Acc.ev Lc i0 ++ rc ac0 F Acc.ev Lc i0 (j + 1))) := by
                                    rw [hrc]
                                    exact own_keep HO6.out fun g hg => by rw [hsm.heap]
                                  have HX5 := Lib.hid (HX6.out.sm hsm)
                                  have HR5 : Hid ((w9).heap[r]? = wN.heap[r]?) := by rw [hsm.heap]; exact HR6
                                  have HG5 : Hid ((w9).heap[gc]? = some (.cells (acell a).toArray 83 (0, 0)) ∧ gc < (w9).heap.size) := by rw [hsm.heap]; exact HG6
                                  clear hsm hrc hf
                                  go_roundw
                                  case rel => exact ⟨j + 1, q4, Ar, cr, hlt4, by go_num, rfl, by omega, HQ5, HO5, HX5, HR5, HG5, HN4⟩
                                  case measure => simp [intOf]; omega
                                · rw [hb2]
                                  have HH2 := Lib.hid hb2
                                  clear hb2
                                  have hf : F a b = true := by rw [hF.out, HH1.out, HH2.out]; simp [HK1.out, HPA.out, HPB.out, HWA.out]
                                  have hrc := HYES.out hf
                                  have hg9 := HG6.out
                                  rw [← HSM9.out.heap] at hg9
                                  have hb9 := HB6.out
                                  rw [← HSM9.out.heap] at hb9
                                  have y0 : w9.cell? ⟨gc, 0, none⟩ = some (.int .i64 (a.ev : Int)) := by rw [cell_of_row _ _ 0 _ 83 (0, 0) hg9.1]; rfl
                                  have z0 : w9.cell? ⟨wr.heap.size, 0, none⟩ = some (.int .i64 (b.ev : Int)) := by rw [cell_of_row _ _ 0 _ 83 (0, 0) hb9]; rfl
                                  have hO9 : OwnR2 w9 wR.heap.size Ar cr (R0 ++ rr ac0 F Acc.ev Lc i0 ++ rc ac0 F Acc.ev Lc i0 j) := own_keep HO6.out fun g hg => by rw [HSM9.out.heap]
                                  have hrow9 : w9.ownsRow wR.heap.size 85 2 (.slice Ar q4 cr) q4 ((R0 ++ rr ac0 F Acc.ev Lc i0 ++ rc ac0 F Acc.ev Lc i0 j).flatMap rcell) := by rw [HQ4.out]; exact hO9
                                  have HRW := Lib.hid hrow9
                                  have HGC := Lib.hid hg9
                                  have HX9 := Lib.hid (HX6.out.sm HSM9.out)
                                  have HR9 : Hid (w9.heap[r]? = wN.heap[r]?) := by rw [HSM9.out.heap]; exact HR6
                                  have hs9 := HX9.out.size
                                  have hgc9 := hg9.2
                                  clear hg9 hb9 hO9 hrow9 HA7 HA8 hf HSM7 HSM8
                                  go_upto_region 20 with fail
                                  go_wp2_with (at_builtin; refine halt_ ?_)
                                  refine Halt_.go ?_
                                  refine wl_append_two _ (by rfl) (.tmp 112) (.tmp 118) 73 (by rfl) wR.heap.size 85 _ 2 16 info85 Try.underlying73 rfl (by decide) (.slice Ar q4 cr) q4 ((R0 ++ rr ac0 F Acc.ev Lc i0 ++ rc ac0 F Acc.ev Lc i0 j).flatMap rcell) (by rfl) (HRW.out.alloc _) w9.heap.size 1 [.int .i64 (a.ev : Int), .int .i64 (b.ev : Int)] (by rfl) (heap_at _ _ _ rfl) rfl (by simp [Value.oneCell']) (by omega) (by omega) (by simp; omega) ?_
                                  intro g9 cap2 w10 hown hlt10 htwo
                                  have hgr := grown_trans (World.grownBy_alloc w9 _ _) (two_grown htwo)
                                  have hOA : OwnR2 w10 wR.heap.size (some ⟨g9, 0, none⟩) cap2 ((R0 ++ rr ac0 F Acc.ev Lc i0 ++ rc ac0 F Acc.ev Lc i0 j) ++ [(a.ev, b.ev)]) := by
                                    unfold OwnR2
                                    rw [List.length_append, List.flatMap_append, ← HQ4.out]
                                    exact hown
                                  rw [List.append_assoc, ← hrc] at hOA
                                  have HO5 := Lib.hid hOA
                                  have HQ5 : Hid (q4 + 1 = (R0 ++ rr ac0 F Acc.ev Lc i0 ++ rc ac0 F Acc.ev Lc i0 (j + 1)).length) := by
                                    have := HQ4.out
                                    show q4 + 1 = _
                                    rw [hrc, ← List.append_assoc, List.length_append, ← this]
                                    rfl
                                  have hbk : ∀ k, k < w9.heap.size → ¬ (Value.slice Ar q4 cr).ownBlock = some k → w10.heap[k]? = w9.heap[k]? := fun k hk hn => hgr.block k hk (fun e => hn e.symm)
                                  have HX5 := Lib.hid (HX9.out.grown hgr (fun k h1 h2 => absurd (World.ownsRow.lt HRW.out k h1).1 (by omega)))
                                  have HR5 : Hid (w10.heap[r]? = wN.heap[r]?) := (hbk r (by omega) (fun e => by have := (World.ownsRow.lt HRW.out r e).1; omega)).trans HR9.out
                                  have HG5 : Hid (w10.heap[gc]? = some (.cells (acell a).toArray 83 (0, 0)) ∧ gc < w10.heap.size) := ⟨(hbk gc hgc9 (fun e => HN4.out gc e rfl)).trans HGC.out.1, by have := hgr.size; omega⟩
                                  have HN5 : Hid (∀ k, (Value.slice (some ⟨g9, 0, none⟩) (q4 + 1) cap2).ownBlock = some k → k ≠ gc) := fun k hk e => by
                                    have e1 : g9 = k := Option.some.inj hk
                                    rcases htwo with h | h
                                    · exact HN4.out k (by rw [h.1, e1]) e
                                    · have h1 := h.1
                                      simp at h1
                                      omega
                                  clear hrc hown hlt10 htwo hgr hOA hbk y0 z0
                                  go_wp2
                                  go_roundw
                                  case rel => exact ⟨j + 1, q4 + 1, some ⟨g9, 0, none⟩, cap2, hlt4, by go_num, rfl, by omega, HQ5, HO5, HX5, HR5, HG5, HN5⟩
                                  case measure => simp [intOf]; omega
                            · rw [wa] at x3
                              have HWA := Lib.hid wa
                              clear wa
                              rcases Bool.eq_false_or_eq_true b.wr with wb | wb
                              · rw [wb] at y3
                                have HWB := Lib.hid wb
                                clear wb
                                go_wp2
                                go_quiet (fail)
                                have HSM7 : Hid (Sm w6 (w6.drewN nq)) := ⟨rfl, rfl, rfl, rfl⟩
                                clear x1 x3 x4 y1 y3 y4 hc1 hofa hofb x0 y0
                                generalize w6.drewN nq = w7 at *
                                have HA7 := Lib.hid (HAH.out w7 (HSM7.out.below hi) p pb hpN hpbN)
                                go_wp2_with (go_at_call 88; refine halt_ ?_)
                                refine Halt_.go ?_
                                refine HA7.out.mono ?_
                                rintro e7 w8 ⟨rfl, m8, hm8⟩
                                have HSM8 : Hid (Sm w6 w8) := by
                                  have h7 := HSM7.out
                                  rw [hm8]
                                  exact ⟨h7.heap, h7.os, h7.tape, h7.output⟩
                                clear hm8
                                rcases Bool.eq_false_or_eq_true (aheadP l bl lk p pb) with hb1 | hb1
                                · rw [hb1]
                                  have HH1 := Lib.hid hb1
                                  clear hb1
                                  go_wp2
                                  have hf : F a b = false := by rw [hF.out, HH1.out]; simp
                                  have hsm := HSM8.out
                                  have hrc := HNO.out hf
                                  have HQ5 : Hid (q4 = (R0 ++ rr ac0 F Acc.ev Lc i0 ++ rc ac0 F Acc.ev Lc i0 (j + 1)).length) := by rw [hrc]; exact HQ4
                                  have HO5 : Hid (OwnR2 w8 wR.heap.size Ar cr (R0 ++ rr ac0 F Acc.ev Lc i0 ++ rc ac0 F Acc.ev Lc i0 (j + 1))) := by
                                    rw [hrc]
                                    exact own_keep HO6.out fun g hg => by rw [hsm.heap]
                                  have HX5 := Lib.hid (HX6.out.sm hsm)
                                  have HR5 : Hid ((w8).heap[r]? = wN.heap[r]?) := by rw [hsm.heap]; exact HR6
                                  have HG5 : Hid ((w8).heap[gc]? = some (.cells (acell a).toArray 83 (0, 0)) ∧ gc < (w8).heap.size) := by rw [hsm.heap]; exact HG6
                                  clear hsm hrc hf
                                  go_roundw
                                  case rel => exact ⟨j + 1, q4, Ar, cr, hlt4, by go_num, rfl, by omega, HQ5, HO5, HX5, HR5, HG5, HN4⟩
                                  case measure => simp [intOf]; omega
                                · rw [hb1]
                                  have HH1 := Lib.hid hb1
                                  clear hb1
                                  have HA8 := Lib.hid (HAH.out w8 (HSM8.out.below hi) pb p hpbN hpN)
                                  go_wp2_with (go_at_call 88; refine halt_ ?_)
                                  refine Halt_.go ?_
                                  refine HA8.out.mono ?_
                                  rintro e8 w9 ⟨rfl, m9, hm9⟩
                                  have HSM9 : Hid (Sm w6 w9) := by
                                    have h8 := HSM8.out
                                    rw [hm9]
                                    exact ⟨h8.heap, h8.os, h8.tape, h8.output⟩
                                  clear hm9
                                  rcases Bool.eq_false_or_eq_true (aheadP l bl lk pb p) with hb2 | hb2
                                  · rw [hb2]
                                    have HH2 := Lib.hid hb2
                                    clear hb2
                                    go_wp2
                                    have hf : F a b = false := by rw [hF.out, HH1.out, HH2.out]; simp
                                    have hsm := HSM9.out
                                    have hrc := HNO.out hf
                                    have HQ5 : Hid (q4 = (R0 ++ rr ac0 F Acc.ev Lc i0 ++ rc ac0 F Acc.ev Lc i0 (j + 1)).length) := by rw [hrc]; exact HQ4
                                    have HO5 : Hid (OwnR2 w9 wR.heap.size Ar cr (R0 ++ rr ac0 F Acc.ev Lc i0 ++ rc ac0 F Acc.ev Lc i0 (j + 1))) := by
                                      rw [hrc]
                                      exact own_keep HO6.out fun g hg => by rw [hsm.heap]
                                    have HX5 := Lib.hid (HX6.out.sm hsm)
                                    have HR5 : Hid ((w9).heap[r]? = wN.heap[r]?) := by rw [hsm.heap]; exact HR6
                                    have HG5 : Hid ((w9).heap[gc]? = some (.cells (acell a).toArray 83 (0, 0)) ∧ gc < (w9).heap.size) := by rw [hsm.heap]; exact HG6
                                    clear hsm hrc hf
                                    go_roundw
                                    case rel => exact ⟨j + 1, q4, Ar, cr, hlt4, by go_num, rfl, by omega, HQ5, HO5, HX5, HR5, HG5, HN4⟩
                                    case measure => simp [intOf]; omega
                                  · rw [hb2]
                                    have HH2 := Lib.hid hb2
                                    clear hb2
                                    have hf : F a b = true := by rw [hF.out, HH1.out, HH2.out]; simp [HK1.out, HPA.out, HPB.out, HWA.out, HWB.out]
                                    have hrc := HYES.out hf
                                    have hg9 := HG6.out
                                    rw [← HSM9.out.heap] at hg9
                                    have hb9 := HB6.out
                                    rw [← HSM9.out.heap] at hb9
                                    have y0 : w9.cell? ⟨gc, 0, none⟩ = some (.int .i64 (a.ev : Int)) := by rw [cell_of_row _ _ 0 _ 83 (0, 0) hg9.1]; rfl
                                    have z0 : w9.cell? ⟨wr.heap.size, 0, none⟩ = some (.int .i64 (b.ev : Int)) := by rw [cell_of_row _ _ 0 _ 83 (0, 0) hb9]; rfl
                                    have hO9 : OwnR2 w9 wR.heap.size Ar cr (R0 ++ rr ac0 F Acc.ev Lc i0 ++ rc ac0 F Acc.ev Lc i0 j) := own_keep HO6.out fun g hg => by rw [HSM9.out.heap]
                                    have hrow9 : w9.ownsRow wR.heap.size 85 2 (.slice Ar q4 cr) q4 ((R0 ++ rr ac0 F Acc.ev Lc i0 ++ rc ac0 F Acc.ev Lc i0 j).flatMap rcell) := by rw [HQ4.out]; exact hO9
                                    have HRW := Lib.hid hrow9
                                    have HGC := Lib.hid hg9
                                    have HX9 := Lib.hid (HX6.out.sm HSM9.out)
                                    have HR9 : Hid (w9.heap[r]? = wN.heap[r]?) := by rw [HSM9.out.heap]; exact HR6
                                    have hs9 := HX9.out.size
                                    have hgc9 := hg9.2
                                    clear hg9 hb9 hO9 hrow9 HA7 HA8 hf HSM7 HSM8
                                    go_upto_region 20 with fail
                                    go_wp2_with (at_builtin; refine halt_ ?_)
                                    refine Halt_.go ?_
                                    refine wl_append_two _ (by rfl) (.tmp 112) (.tmp 118) 73 (by rfl) wR.heap.size 85 _ 2 16 info85 Try.underlying73 rfl (by decide) (.slice Ar q4 cr) q4 ((R0 ++ rr ac0 F Acc.ev Lc i0 ++ rc ac0 F Acc.ev Lc i0 j).flatMap rcell) (by rfl) (HRW.out.alloc _) w9.heap.size 1 [.int .i64 (a.ev : Int), .int .i64 (b.ev : Int)] (by rfl) (heap_at _ _ _ rfl) rfl (by simp [Value.oneCell']) (by omega) (by omega) (by simp; omega) ?_
                                    intro g9 cap2 w10 hown hlt10 htwo
                                    have hgr := grown_trans (World.grownBy_alloc w9 _ _) (two_grown htwo)
                                    have hOA : OwnR2 w10 wR.heap.size (some ⟨g9, 0, none⟩) cap2 ((R0 ++ rr ac0 F Acc.ev Lc i0 ++ rc ac0 F Acc.ev Lc i0 j) ++ [(a.ev, b.ev)]) := by
                                      unfold OwnR2
                                      rw [List.length_append, List.flatMap_append, ← HQ4.out]
                                      exact hown
                                    rw [List.append_assoc, ← hrc] at hOA
                                    have HO5 := Lib.hid hOA
                                    have HQ5 : Hid (q4 + 1 = (R0 ++ rr ac0 F Acc.ev Lc i0 ++ rc ac0 F Acc.ev Lc i0 (j + 1)).length) := by
                                      have := HQ4.out
                                      show q4 + 1 = _
                                      rw [hrc, ← List.append_assoc, List.length_append, ← this]
                                      rfl
                                    have hbk : ∀ k, k < w9.heap.size → ¬ (Value.slice Ar q4 cr).ownBlock = some k → w10.heap[k]? = w9.heap[k]? := fun k hk hn => hgr.block k hk (fun e => hn e.symm)
                                    have HX5 := Lib.hid (HX9.out.grown hgr (fun k h1 h2 => absurd (World.ownsRow.lt HRW.out k h1).1 (by omega)))
                                    have HR5 : Hid (w10.heap[r]? = wN.heap[r]?) := (hbk r (by omega) (fun e => by have := (World.ownsRow.lt HRW.out r e).1; omega)).trans HR9.out
                                    have HG5 : Hid (w10.heap[gc]? = some (.cells (acell a).toArray 83 (0, 0)) ∧ gc < w10.heap.size) := ⟨(hbk gc hgc9 (fun e => HN4.out gc e rfl)).trans HGC.out.1, by have := hgr.size; omega⟩
                                    have HN5 : Hid (∀ k, (Value.slice (some ⟨g9, 0, none⟩) (q4 + 1) cap2).ownBlock = some k → k ≠ gc) := fun k hk e => by
                                      have e1 : g9 = k := Option.some.inj hk
                                      rcases htwo with h | h
                                      · exact HN4.out k (by rw [h.1, e1]) e
                                      · have h1 := h.1
                                        simp at h1
                                        omega
                                    clear hrc hown hlt10 htwo hgr hOA hbk y0 z0
                                    go_wp2
                                    go_roundw
                                    case rel => exact ⟨j + 1, q4 + 1, some ⟨g9, 0, none⟩, cap2, hlt4, by go_num, rfl, by omega, HQ5, HO5, HX5, HR5, HG5, HN5⟩
                                    case measure => simp [intOf]; omega
                              · rw [wb] at y3
                                have HWB := Lib.hid wb
                                clear wb
                                go_wp2
                                have hf : F a b = false := by rw [hF.out, HWA.out, HWB.out, Bool.or_self, Bool.and_false, Bool.false_and, Bool.false_and]
                                have hsm := Sm.refl w6
                                have hrc := HNO.out hf
                                have HQ5 : Hid (q4 = (R0 ++ rr ac0 F Acc.ev Lc i0 ++ rc ac0 F Acc.ev Lc i0 (j + 1)).length) := by rw [hrc]; exact HQ4
                                have HO5 : Hid (OwnR2 w6 wR.heap.size Ar cr (R0 ++ rr ac0 F Acc.ev Lc i0 ++ rc ac0 F Acc.ev Lc i0 (j + 1))) := by
                                  rw [hrc]
                                  exact own_keep HO6.out fun g hg => by rw [hsm.heap]
                                have HX5 := Lib.hid (HX6.out.sm hsm)
                                have HR5 : Hid ((w6).heap[r]? = wN.heap[r]?) := by rw [hsm.heap]; exact HR6
                                have HG5 : Hid ((w6).heap[gc]? = some (.cells (acell a).toArray 83 (0, 0)) ∧ gc < (w6).heap.size) := by rw [hsm.heap]; exact HG6
                                clear hsm hrc hf
                                go_roundw
                                case rel => exact ⟨j + 1, q4, Ar, cr, hlt4, by go_num, rfl, by omega, HQ5, HO5, HX5, HR5, HG5, HN4⟩
                                case measure => simp [intOf]; omega
                          · rw [pb'] at y4
                            have HPB := Lib.hid pb'
                            clear pb'
                            go_wp2
                            have hf : F a b = false := by rw [hF.out, HPA.out, HPB.out, Bool.or_self, Bool.and_false, Bool.false_and, Bool.false_and, Bool.false_and]
                            have hsm := Sm.refl w6
                            have hrc := HNO.out hf
                            have HQ5 : Hid (q4 = (R0 ++ rr ac0 F Acc.ev Lc i0 ++ rc ac0 F Acc.ev Lc i0 (j + 1)).length) := by rw [hrc]; exact HQ4
                            have HO5 : Hid (OwnR2 w6 wR.heap.size Ar cr (R0 ++ rr ac0 F Acc.ev Lc i0 ++ rc ac0 F Acc.ev Lc i0 (j + 1))) := by
                              rw [hrc]
                              exact own_keep HO6.out fun g hg => by rw [hsm.heap]
                            have HX5 := Lib.hid (HX6.out.sm hsm)
                            have HR5 : Hid ((w6).heap[r]? = wN.heap[r]?) := by rw [hsm.heap]; exact HR6
                            have HG5 : Hid ((w6).heap[gc]? = some (.cells (acell a).toArray 83 (0, 0)) ∧ gc < (w6).heap.size) := by rw [hsm.heap]; exact HG6
                            clear hsm hrc hf
                            go_roundw
                            case rel => exact ⟨j + 1, q4, Ar, cr, hlt4, by go_num, rfl, by omega, HQ5, HO5, HX5, HR5, HG5, HN4⟩
                            case measure => simp [intOf]; omega
                  · have hj0 : j = d4 := by omega
                    have hrs : rr ac0 F Acc.ev Lc (i0 + 1) = rr ac0 F Acc.ev Lc i0 ++ rc ac0 F Acc.ev Lc i0 d4 := by
                      rw [HDD.out.1]
                      rfl
                    rw [hj0, List.append_assoc, ← hrs] at HQ4 HO4
                    have k4 : ¬ (j : Int) < (d4 : Int) := by omega
                    have hq5 : q4 ≤ q + (i0 + 1) * 1000 := by omega
                    clear hj0 hrs HGA HN4
                    go_wp2
                    go_roundw
                    case rel => exact ⟨i0 + 1, q4, Ar, cr, hlt, by go_num, rfl, hq5, HQ4, HO4, HX4, HR4⟩
                    case measure => simp [intOf]; omega
            · have hi1 : i0 = Lc.length := by omega
              have hq' := HRC.out (R0 ++ rr ac0 F Acc.ev Lc Lc.length) rfl
              rw [hi1] at HQ3 HO3
              rw [hq'] at HQ3 HO3
              have k4 : ¬ (i0 : Int) < (Lc.length : Int) := by omega
              have hrgE : wr.ranges Try.prog 40 Rv w.heap.size r L.length D (fun z => left z && !z.sameKey (.int .u64 x)) cntN := ranges_kept hrgN ((HX3.out.block w.heap.size (by have := HER.out.size; have := HB2.out.size; omega) (by have := HGB.out.2; omega)).trans (HXN.out.block w.heap.size (by have := HER.out.size; omega) (by omega)).symm) HR3.out
              have HRE := Lib.hid hrgE
              have HRG := Lib.hid hrg
              have hq6 : q3 ≤ (cs ++ [x]).length * 1000000 := by
                rw [List.length_append, List.length_singleton]
                omega
              have hcn : (cs ++ [x]).length + cntN ≤ L.length := by
                rw [List.length_append, List.length_singleton]
                omega
              clear hi1 hq' hrgE hrg
              go_wp2
              go_roundw
              case rel => exact ⟨_, cntN, q3, cs ++ [x], Ar, cr, HRE.out, rfl, hcn, hq6, HQ3, HO3, HX3, HCX⟩
              case measure =>
                rw [World.ranges.left_eq HRE.out, World.ranges.left_eq HRG.out]
                exact hltc
end Go.Proofs.Ytjifpjfinffamaa
end
