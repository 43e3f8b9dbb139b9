/- Walk: the reference's Round. -/
import Derived.Test.YtjifpjfinffamaaM2
import Derived.Deep.RegionHeld3
import Derived.OrdersHeld
import Derived.Deep.RegionWith
import Derived.IntWalk
import Derived.Deep.QuietTactic
import Derived.BigQuiet
namespace Go.Proofs.Ytjifpjfinffamaa
open Go.RowKit

def RoundEnds (n : Int) (l : List E) (w : World) (e : Ending) (w' : World) : Prop :=
  ∃ A c xs ok er, e = .returned (.tuple #[.slice A xs.length c, .bool ok, .int .i64 er]) ∧ RoundS n l xs ok er ∧ OwnI w' w.heap.size A c xs ∧ Below w.heap.size w w'

/-- what refFar comes to, as a law of its own: so that a walk does not take it apart -/
def FarEnds (N σ : Nat) (l : List E) (w : World) (e : Ending) (w' : World) : Prop :=
  ∃ g c', e = .returned (.slice (some ⟨g, 0, none⟩) N c') ∧ (∀ v : Nat, v < N → w'.cell? ⟨g, v, none⟩ = some (.int .i64 (dst l σ v)) ∧ -1 ≤ dst l σ v ∧ dst l σ v < N) ∧ Below w.heap.size w w'
theorem refFar_ends (N σ : Nat) (A : Option Addr) (cap : Nat) (l : List E) (w : World) (hN : N ≤ 65536) (hσ : σ < N) (ok : Ok N l) (hl : l.length * 24 ≤ 140737488351232) (hc : RE w w.heap.size A l) :
    Calls Try.prog 71 #[.int .i64 N, .int .i64 σ, .slice A l.length cap] w (FarEnds N σ l w) :=
  (refFar_any N σ A cap l w hN hσ ok hl hc).mono fun _ _ ⟨c', d, he, hd, hown, hb, hsm⟩ => ⟨_, c', he, fun v hv => by
    have hl := own_len hown
    have e := dst_eq hd (v := (v : Int)) ⟨by omega, by omega⟩
    rw [own_cell hown (by omega), ← e]
    have h1 := hsm v (by omega) (by omega)
    have h2 := hd.wk v (by omega) (by omega)
    exact ⟨rfl, by omega, h1⟩, hb⟩

theorem RE.at2 {w w' : World} {B b off : Nat} {l : List E} (h : RE w B (some ⟨b, off, none⟩) l) (hb : Below B w w') {k : Nat} (hk : k < l.length) :
    ∃ f t kk, b < B ∧ eg l k = ⟨f, t, kk⟩ ∧ ⟨f, t, kk⟩ ∈ l ∧ w'.cell? ⟨b, off + k * 3, none⟩ = some (.int .i64 f) ∧ w'.cell? ⟨b, off + k * 3 + 1, none⟩ = some (.int .i64 t) := by
  obtain ⟨b', off', f, t, kk, hA, hB, he, h1, h2, _⟩ := h.at_ hb hk
  injection hA with hA
  injection hA with e1 e2
  subst e1 e2
  exact ⟨f, t, kk, hB, by simp [eg, List.getD, he.out], List.mem_of_getElem? he.out, h1, h2⟩

set_option linter.unusedSimpArgs false in
set_option maxRecDepth 100000 in
set_option maxHeartbeats 3200000 in
theorem refRound_any (n : Int) (A : Option Addr) (cap : Nat) (l : List E) (w : World) (hl : l.length * 24 ≤ 140737488351232) (hc : RE w w.heap.size A l) :
    Calls Try.prog 25 #[.int .i64 n, .slice A l.length cap] w (RoundEnds n l w) := by
  by_cases hR : rightB n l = true
  · obtain ⟨N, rfl, hN, ok⟩ := right_ok hR
    go_enter Try.func25, Try.ntmps25
    have HOK := Lib.hid ok
    clear ok
    go_wp2_with (go_at_call 70; refine (refRight_any _ _ _ l _ (by omega) hc).mono ?_; rintro e w1 ⟨rfl, rfl⟩)
    have HR := Lib.hid hR
    clear hR
    go_loopw [7, 8, 9] (fun a b i wr => ∃ (k : Nat) (x y : Int), k ≤ l.length ∧ a = .int .i64 x ∧ b = .int .i64 y ∧ i = .int .i64 k ∧ PickR (-1) l k x y ∧ x ≤ N ∧ Below w.heap.size w wr) (fun a b i _ => l.length - (intOf i).toNat)
    case atStart => exact ⟨0, -1, -1, Nat.zero_le _, rfl, rfl, rfl, .inl ⟨rfl, rfl, rfl⟩, by omega, Below.refl _ _⟩
    case round =>
      obtain ⟨k, x, y, hk, rfl, rfl, rfl, hp, hxN, hbel⟩ := hrel
      by_cases hlt : k < l.length
      · obtain ⟨eb, eo, f, t, kk, rfl, heb, he, he1, he2, he3⟩ := hc.at_ hbel hlt
        have heg : eg l k = ⟨f, t, kk⟩ := by simp [eg, List.getD, he.out]
        have hmem := HOK.out _ (List.mem_of_getElem? he.out)
        simp only at hmem
        obtain ⟨f, rfl⟩ := Int.eq_ofNat_of_zero_le hmem.1.1
        obtain ⟨t, rfl⟩ := Int.eq_ofNat_of_zero_le hmem.2.1
        have hfN : f < N := by have := hmem.1.2; omega
        have htN : t < N := by have := hmem.2.2; omega
        have hgap : gap l k = dst l t f := by simp [gap, heg]
        have i1 : (0 : Int) ≤ (f : Int) := by omega
        have i2 : (f : Int) < (N : Int) := by omega
        have i3 : (0 : Int) ≤ (k : Int) := by omega
        have i4 : (k : Int) < (l.length : Int) := by omega
        have hsz := hbel.size
        have hcr := hc.below hbel
        have HP := Lib.hid hp
        have HG := Lib.hid hgap
        have HC := Lib.hid hc
        have HB := Lib.hid hbel
        have hbd := hbel.drew
        have heb' : eb < wr.drew.heap.size := Nat.lt_of_lt_of_le heb hsz
        have hrd : RE wr.drew wr.drew.heap.size (some ⟨eb, eo, none⟩) l := (hc.below hbel).more hsz
        clear hp hmem heg he hgap hc hbel he3 hcr
        go_wp2
        go_region_with (go_at_call 71; refine (refFar_ends N t _ _ l wr.drew hN htN HOK.out hl hrd).mono ?_; rintro e w2 ⟨g, c', rfl, hcell, hb2⟩; have hc1 : w2.cell? ⟨eb, eo + k * 3, none⟩ = some (.int .i64 f) := (hb2.cell (p := ⟨eb, eo + k * 3, none⟩) heb').trans he1; have hc2 : w2.cell? ⟨eb, eo + k * 3 + 1, none⟩ = some (.int .i64 t) := (hb2.cell (p := ⟨eb, eo + k * 3 + 1, none⟩) heb').trans he2; have hbe := hbd.trans (hb2.mono hsz); obtain ⟨hcf, hz1, hz2⟩ := hcell f hfN; clear hcell hb2)
        all_goals
          have HE := Lib.hid (hbe : Below w.heap.size w w2)
          clear hbd hrd heb' hbe
          generalize hz : dst l (t : Int) (f : Int) = z at *
          clear hz
          have HXY := Lib.hid HP.out.pos
          go_wp2
          all_goals
            have hxy := HXY.out
            go_roundw
            case rel =>
              first
              | exact ⟨k + 1, z + 1, k, hlt, rfl, rfl, by go_num, HP.out.take HG.out (by omega) (by omega), by omega, HE.out⟩
              | exact ⟨k + 1, x, y, hlt, rfl, rfl, by go_num, HP.out.keep HG.out (by omega), hxN, HE.out⟩
            case measure => simp [intOf]; omega
      · have hkl : k = l.length := by omega
        subst hkl
        have hxy := hp.pos
        by_cases hy : y < 0
        · have hnone : pick (gap l) l.length = none := by
            rcases hp with h | ⟨j, _, h⟩
            · exact h.1
            · omega
          clear hp hxy
          go_wp2
          go_ret3
          exact ⟨none, 0, [], false, 0, rfl, .inr ⟨HR.out, rfl, .inl ⟨hnone, rfl, rfl⟩⟩, OwnI.nil _ _, hbel⟩
        · obtain ⟨j, hpk, rfl⟩ : ∃ j : Nat, pick (gap l) l.length = some (j, x) ∧ y = j := by
            rcases hp with h | h
            · omega
            · exact h
          have hG := Grows.start hpk
          have hps := pick_some hpk
          have HG := Lib.hid hG
          have HP := Lib.hid hpk
          have hjl := hps.1
          have hsz := hbel.size
          clear hp hpk hG hps
          go_wp2
          go_loopg [11] x.toNat (fun gk v wr => ∃ (A : Option Addr) (c : Nat) (xs : List Int) (r last : Nat), v = .slice A xs.length c ∧ Grows l j x xs r last ∧ OwnI wr w.heap.size A c xs ∧ r ≤ gk ∧ Below w.heap.size w wr)
          case atStart =>
            refine ⟨_, _, [(j : Int)], _, _, rfl, HG.out, ?_, by omega, hbel.alloc hsz _⟩
            exact World.ownsRow_lit wr #[.int .i64 (j : Int)] 1 hsz (by decide) rfl
          case round =>
            clear HG hbel hsz
            obtain ⟨B, c, xs, r, last, rfl, hG, hown, hgk, hbel⟩ := hrel
            have hsz := hbel.size
            have hlen := hG.len
            cases r with
            | zero =>
              have hfin := hG.fin
              have HF := Lib.hid hfin
              clear hG hfin
              go_wp2
              go_ret3
              exact ⟨B, c, xs, true, 0, rfl, .inr ⟨HR.out, rfl, .inr ⟨j, x, HP.out, HF.out, rfl⟩⟩, hown, hbel⟩
            | succ r =>
              obtain ⟨hpos, hlast⟩ := hG.getLast
              have hll := hG.lt
              have hfar := hG.far
              have hst := step_spec (l := l) (v := (eg l last).t) (s := (eg l j).f) (k := r) (by omega)
              have hG2 := hG.step
              obtain ⟨ob, oo, ov, hB, hob, hov, hoc⟩ := hown.reads.at_ (Below.refl _ _) (k := xs.length - 1) (by omega)
              have hovl : ov = (last : Int) := Option.some.inj (hov.out.symm.trans hlast)
              subst hovl
              obtain ⟨eb, eo, f, t, kk, rfl, heb, he, he1, he2, he3⟩ := hc.at_ hbel hll
              have heg : eg l last = ⟨f, t, kk⟩ := by simp [eg, List.getD, he.out]
              have htt : (eg l last).t = t := by rw [heg]
              rw [htt] at hst hG2
              generalize hk0 : step l (eg l j).f r t = k0 at hst hG2
              have HST := Lib.hid hst
              have HG2 := Lib.hid hG2
              have HO := Lib.hid hown
              have HC := Lib.hid hc
              have HB := Lib.hid hbel
              subst hB
              have i1 : (0 : Int) ≤ (last : Int) := by omega
              have i2 : (last : Int) < (l.length : Int) := by omega
              have i3 : (0 : Int) ≤ (xs.length : Int) - 1 := by omega
              have i4 : ((xs.length : Int) - 1).toNat = xs.length - 1 := by omega
              have hk0l := hst.1
              have hlt0 : (xs.length : Int) < x := by omega
              clear hk0 hst hG2 hG heg htt he hov hlast hfar hown hc hbel he3
              go_wp2
              go_loopw [13, 11] (fun i v wr2 => ∃ (p : Nat), p ≤ k0 ∧ i = .int .i64 p ∧ v = .slice (some ⟨ob, oo, none⟩) xs.length c ∧ OwnI wr2 w.heap.size (some ⟨ob, oo, none⟩) c xs ∧ Below w.heap.size w wr2) (fun i v _ => l.length - (intOf i).toNat)
              case atStart => exact ⟨0, Nat.zero_le _, rfl, rfl, HO.out, HB.out⟩
              case round =>
                clear HB HO hsz hob hoc he1 he2
                obtain ⟨p, hp, rfl, rfl, hown, hbel⟩ := hrel
                have hsz := hbel.size
                obtain ⟨f2, t2, kk2, _, hg2, hm2, hp1, hp2⟩ := HC.out.at2 hbel (k := p) (by omega)
                obtain ⟨s, ts, ks, _, hgs, hms, hs1, hs2⟩ := HC.out.at2 hbel (k := j) (by omega)
                have hmem := HOK.out _ hm2
                have hmes := HOK.out _ hms
                simp only at hmem hmes
                obtain ⟨t2, rfl⟩ := Int.eq_ofNat_of_zero_le hmem.2.1
                obtain ⟨s, rfl⟩ := Int.eq_ofNat_of_zero_le hmes.1.1
                have htN : t2 < N := by have := hmem.2.2; omega
                have hsN : s < N := by have := hmes.1.2; omega
                have i5 : (0 : Int) ≤ (s : Int) := by omega
                have i6 : (s : Int) < (N : Int) := by omega
                have i7 : (0 : Int) ≤ (p : Int) := by omega
                have i8 : (p : Int) < (l.length : Int) := by omega
                have i9 : (0 : Int) ≤ (j : Int) := by omega
                have i0 : (j : Int) < (l.length : Int) := by omega
                have hst := HST.out
                simp only [hgs] at hst
                by_cases hf2 : f2 = t
                · subst hf2
                  obtain ⟨z, hz⟩ : ∃ z, dst l (t2 : Int) (s : Int) = z := ⟨_, rfl⟩
                  have HO := Lib.hid hown
                  have HB := Lib.hid hbel
                  have HZ := Lib.hid hz
                  have hbd := hbel.drew
                  have hrd : RE wr.drew wr.drew.heap.size (some ⟨eb, eo, none⟩) l := (HC.out.below hbel).more hsz
                  have heb' : eb < wr.drew.heap.size := Nat.lt_of_lt_of_le heb hsz
                  have ix : IntKind.i64.wrap (x - xs.length) = x - xs.length := IntWalk.i64_in _ (by omega)
                  have iy : IntKind.i64.wrap (x - xs.length - 1) = x - xs.length - 1 := IntWalk.i64_in _ (by omega)
                  clear hz hgs hm2 hms hmem hmes hown
                  go_wp2
                  refine wp_region_held_drew (S := (fun W => W.cell? ⟨eb, eo + p * 3, none⟩ = some (.int .i64 f2) ∧ W.cell? ⟨eb, eo + p * 3 + 1, none⟩ = some (.int .i64 t2) ∧ W.cell? ⟨eb, eo + j * 3, none⟩ = some (.int .i64 s))) (by kernel_rfl) ⟨hp1, hp2, hs1⟩ (fun hHeld => ?_)
                  refine wpAnyH_take (i := 0) (oi := _) (v := ?v0) rfl (by kernel_rfl) (by kernel_rfl) (by kernel_rfl) (fun _ _ _ h => h) (Or.inl ⟨by rfl, ?hy0⟩) (by assumption) ?rest0
                  case hy0 => ((intro w hSw; (try dsimp only at hSw); go_simp); (try with_reducible rfl))
                  (try simp only [Act.put, Array.getInternal_eq_getElem, List.getElem_toArray, List.getElem_cons_zero, List.getElem_cons_succ, List.setIfInBounds_toArray, List.set_cons_zero, List.set_cons_succ])
                  refine wpAnyH_take (i := 1) (oi := _) (v := ?v1) rfl (by kernel_rfl) (by kernel_rfl) (by kernel_rfl) (fun _ _ _ h => h) (Or.inl ⟨by rfl, ?hy1⟩) (by assumption) ?rest1
                  case hy1 => ((intro w hSw; (try dsimp only at hSw); go_simp); (try with_reducible rfl))
                  (try simp only [Act.put, Array.getInternal_eq_getElem, List.getElem_toArray, List.getElem_cons_zero, List.getElem_cons_succ, List.setIfInBounds_toArray, List.set_cons_zero, List.set_cons_succ])
                  refine wpAnyH_take (i := 2) (oi := _) (v := ?v2) rfl (by kernel_rfl) (by kernel_rfl) (by kernel_rfl) (fun _ _ _ h => h) (Or.inl ⟨by rfl, ?hy2⟩) (by assumption) ?rest2
                  case hy2 => ((intro w hSw; (try dsimp only at hSw); go_simp); (try with_reducible rfl))
                  (try simp only [Act.put, Array.getInternal_eq_getElem, List.getElem_toArray, List.getElem_cons_zero, List.getElem_cons_succ, List.setIfInBounds_toArray, List.set_cons_zero, List.set_cons_succ])
                  refine wpAnyH_take (i := 3) (oi := _) (v := ?v3) rfl (by kernel_rfl) (by kernel_rfl) (by kernel_rfl) (fun _ _ _ h => h) (Or.inl ⟨by rfl, ?hy3⟩) (by assumption) ?rest3
                  case hy3 => ((intro w hSw; (try dsimp only at hSw); go_simp); (try with_reducible rfl))
                  (try simp only [Act.put, Array.getInternal_eq_getElem, List.getElem_toArray, List.getElem_cons_zero, List.getElem_cons_succ, List.setIfInBounds_toArray, List.set_cons_zero, List.set_cons_succ])
                  refine wpAnyH_take (i := 4) (oi := _) (v := ?v4) rfl (by kernel_rfl) (by kernel_rfl) (by kernel_rfl) (fun _ _ _ h => h) (Or.inl ⟨by rfl, ?hy4⟩) (by assumption) ?rest4
                  case hy4 => ((intro w hSw; (try dsimp only at hSw); go_simp); (try with_reducible rfl))
                  (try simp only [Act.put, Array.getInternal_eq_getElem, List.getElem_toArray, List.getElem_cons_zero, List.getElem_cons_succ, List.setIfInBounds_toArray, List.set_cons_zero, List.set_cons_succ])
                  refine wpAnyH_take (i := 5) (oi := _) (v := ?v5) rfl (by kernel_rfl) (by kernel_rfl) (by kernel_rfl) (fun _ _ _ h => h) (Or.inl ⟨by rfl, ?hy5⟩) (by assumption) ?rest5
                  case hy5 => ((intro w hSw; (try dsimp only at hSw); go_simp); (try with_reducible rfl))
                  (try simp only [Act.put, Array.getInternal_eq_getElem, List.getElem_toArray, List.getElem_cons_zero, List.getElem_cons_succ, List.setIfInBounds_toArray, List.set_cons_zero, List.set_cons_succ])
                  refine wpAnyH_take (i := 6) (oi := _) (v := ?v6) rfl (by kernel_rfl) (by kernel_rfl) (by kernel_rfl) (fun _ _ _ h => h) (Or.inl ⟨by rfl, ?hy6⟩) (by assumption) ?rest6
                  case hy6 => ((intro w hSw; (try dsimp only at hSw); go_simp); (try with_reducible rfl))
                  (try simp only [Act.put, Array.getInternal_eq_getElem, List.getElem_toArray, List.getElem_cons_zero, List.getElem_cons_succ, List.setIfInBounds_toArray, List.set_cons_zero, List.set_cons_succ])
                  refine wpAnyH_take (i := 7) (oi := _) (v := ?v7) rfl (by kernel_rfl) (by kernel_rfl) (by kernel_rfl) (fun _ _ _ h => h) (Or.inl ⟨by rfl, ?hy7⟩) (by assumption) ?rest7
                  case hy7 => ((intro w hSw; (try dsimp only at hSw); go_simp); (try with_reducible rfl))
                  (try simp only [Act.put, Array.getInternal_eq_getElem, List.getElem_toArray, List.getElem_cons_zero, List.getElem_cons_succ, List.setIfInBounds_toArray, List.set_cons_zero, List.set_cons_succ])
                  refine wpAnyH_take (i := 8) (oi := _) (v := ?v8) rfl (by kernel_rfl) (by kernel_rfl) (by kernel_rfl) (fun _ _ _ h => h) (Or.inl ⟨by rfl, ?hy8⟩) (by assumption) ?rest8
                  case hy8 => ((intro w hSw; (try dsimp only at hSw); go_simp); (try with_reducible rfl))
                  (try simp only [Act.put, Array.getInternal_eq_getElem, List.getElem_toArray, List.getElem_cons_zero, List.getElem_cons_succ, List.setIfInBounds_toArray, List.set_cons_zero, List.set_cons_succ])
                  refine wpAnyH_take (i := 9) (oi := _) (v := ?v9) rfl (by kernel_rfl) (by kernel_rfl) (by kernel_rfl) (fun _ _ _ h => h) (Or.inl ⟨by rfl, ?hy9⟩) (by assumption) ?rest9
                  case hy9 => ((intro w hSw; (try dsimp only at hSw); go_simp); (try with_reducible rfl))
                  (try simp only [Act.put, Array.getInternal_eq_getElem, List.getElem_toArray, List.getElem_cons_zero, List.getElem_cons_succ, List.setIfInBounds_toArray, List.set_cons_zero, List.set_cons_succ])
                  refine wpAnyH_take (i := 10) (oi := _) (v := ?v10) rfl (by kernel_rfl) (by kernel_rfl) (by kernel_rfl) (fun _ _ _ h => h) (Or.inl ⟨by rfl, ?hy10⟩) (by assumption) ?rest10
                  case hy10 => ((intro w hSw; (try dsimp only at hSw); go_simp); (try with_reducible rfl))
                  (try simp only [Act.put, Array.getInternal_eq_getElem, List.getElem_toArray, List.getElem_cons_zero, List.getElem_cons_succ, List.setIfInBounds_toArray, List.set_cons_zero, List.set_cons_succ])
                  refine wpAnyH_take (i := 11) (oi := _) (v := ?v11) rfl (by kernel_rfl) (by kernel_rfl) (by kernel_rfl) (fun _ _ _ h => h) (Or.inl ⟨by rfl, ?hy11⟩) (by assumption) ?rest11
                  case hy11 => ((intro w hSw; (try dsimp only at hSw); go_simp); (try with_reducible rfl))
                  (try simp only [Act.put, Array.getInternal_eq_getElem, List.getElem_toArray, List.getElem_cons_zero, List.getElem_cons_succ, List.setIfInBounds_toArray, List.set_cons_zero, List.set_cons_succ])
                  refine wpAnyH_take (i := 12) (oi := _) (v := ?v12) rfl (by kernel_rfl) (by kernel_rfl) (by kernel_rfl) (fun _ _ _ h => h) (Or.inl ⟨by rfl, ?hy12⟩) (by assumption) ?rest12
                  case hy12 => ((intro w hSw; (try dsimp only at hSw); go_simp); (try with_reducible rfl))
                  (try simp only [Act.put, Array.getInternal_eq_getElem, List.getElem_toArray, List.getElem_cons_zero, List.getElem_cons_succ, List.setIfInBounds_toArray, List.set_cons_zero, List.set_cons_succ])
                  refine wpAnyH_take (i := 13) (oi := _) (v := ?v13) rfl (by kernel_rfl) (by kernel_rfl) (by kernel_rfl) (fun _ _ _ h => h) (Or.inl ⟨by rfl, ?hy13⟩) (by assumption) ?rest13
                  case hy13 => ((intro w hSw; (try dsimp only at hSw); go_simp); (try with_reducible rfl))
                  (try simp only [Act.put, Array.getInternal_eq_getElem, List.getElem_toArray, List.getElem_cons_zero, List.getElem_cons_succ, List.setIfInBounds_toArray, List.set_cons_zero, List.set_cons_succ])
                  refine wpAnyH_take (i := 14) (oi := _) (v := ?v14) rfl (by kernel_rfl) (by kernel_rfl) (by kernel_rfl) (fun _ _ _ h => h) (Or.inl ⟨by rfl, ?hy14⟩) (by assumption) ?rest14
                  case hy14 => ((intro w hSw; (try dsimp only at hSw); go_simp); (try with_reducible rfl))
                  (try simp only [Act.put, Array.getInternal_eq_getElem, List.getElem_toArray, List.getElem_cons_zero, List.getElem_cons_succ, List.setIfInBounds_toArray, List.set_cons_zero, List.set_cons_succ])
                  refine wpAnyH_take (i := 16) (oi := _) (v := ?v16) rfl (by kernel_rfl) (by kernel_rfl) (by kernel_rfl) (fun _ _ _ h => h) (Or.inl ⟨by rfl, ?hy16⟩) (by assumption) ?rest16
                  case hy16 => ((intro w hSw; (try dsimp only at hSw); go_simp); (try with_reducible rfl))
                  (try simp only [Act.put, Array.getInternal_eq_getElem, List.getElem_toArray, List.getElem_cons_zero, List.getElem_cons_succ, List.setIfInBounds_toArray, List.set_cons_zero, List.set_cons_succ])
                  refine wpAnyH_take (i := 17) (oi := _) (v := ?v17) rfl (by kernel_rfl) (by kernel_rfl) (by kernel_rfl) (fun _ _ _ h => h) (Or.inl ⟨by rfl, ?hy17⟩) (by assumption) ?rest17
                  case hy17 => ((intro w hSw; (try dsimp only at hSw); go_simp); (try with_reducible rfl))
                  (try simp only [Act.put, Array.getInternal_eq_getElem, List.getElem_toArray, List.getElem_cons_zero, List.getElem_cons_succ, List.setIfInBounds_toArray, List.set_cons_zero, List.set_cons_succ])
                  refine wpAnyH_take (i := 18) (oi := _) (v := ?v18) rfl (by kernel_rfl) (by kernel_rfl) (by kernel_rfl) (fun _ _ _ h => h) (Or.inl ⟨by rfl, ?hy18⟩) (by assumption) ?rest18
                  case hy18 => ((intro w hSw; (try dsimp only at hSw); go_simp); (try with_reducible rfl))
                  (try simp only [Act.put, Array.getInternal_eq_getElem, List.getElem_toArray, List.getElem_cons_zero, List.getElem_cons_succ, List.setIfInBounds_toArray, List.set_cons_zero, List.set_cons_succ])
                  refine wpAnyH_take (i := 19) (oi := _) (v := ?v19) rfl (by kernel_rfl) (by kernel_rfl) (by kernel_rfl) (fun _ _ _ h => h) (Or.inl ⟨by rfl, ?hy19⟩) (by assumption) ?rest19
                  case hy19 => ((intro w hSw; (try dsimp only at hSw); go_simp); (try with_reducible rfl))
                  (try simp only [Act.put, Array.getInternal_eq_getElem, List.getElem_toArray, List.getElem_cons_zero, List.getElem_cons_succ, List.setIfInBounds_toArray, List.set_cons_zero, List.set_cons_succ])
                  refine wpAnyH_take (i := 20) (oi := _) (v := ?v20) rfl (by kernel_rfl) (by kernel_rfl) (by kernel_rfl) (fun _ _ _ h => h) (Or.inl ⟨by rfl, ?hy20⟩) (by assumption) ?rest20
                  case hy20 => ((intro w hSw; (try dsimp only at hSw); go_simp); (try with_reducible rfl))
                  (try simp only [Act.put, Array.getInternal_eq_getElem, List.getElem_toArray, List.getElem_cons_zero, List.getElem_cons_succ, List.setIfInBounds_toArray, List.set_cons_zero, List.set_cons_succ])
                  refine wpAnyH_take (i := 23) (oi := _) (v := ?v23) rfl (by kernel_rfl) (by kernel_rfl) (by kernel_rfl) (fun _ _ _ h => h) (Or.inl ⟨by rfl, ?hy23⟩) (by assumption) ?rest23
                  case hy23 => ((intro w hSw; (try dsimp only at hSw); go_simp); (try with_reducible rfl))
                  (try simp only [Act.put, Array.getInternal_eq_getElem, List.getElem_toArray, List.getElem_cons_zero, List.getElem_cons_succ, List.setIfInBounds_toArray, List.set_cons_zero, List.set_cons_succ])
                  refine wpAnyH_take (i := 24) (oi := _) (v := ?v24) rfl (by kernel_rfl) (by kernel_rfl) (by kernel_rfl) (fun _ _ _ h => h) (Or.inl ⟨by rfl, ?hy24⟩) (by assumption) ?rest24
                  case hy24 => ((intro w hSw; (try dsimp only at hSw); go_simp); (try with_reducible rfl))
                  (try simp only [Act.put, Array.getInternal_eq_getElem, List.getElem_toArray, List.getElem_cons_zero, List.getElem_cons_succ, List.setIfInBounds_toArray, List.set_cons_zero, List.set_cons_succ])
                  refine wpAnyH_take (i := 25) (oi := _) (v := ?v25) rfl (by kernel_rfl) (by kernel_rfl) (by kernel_rfl) (fun _ _ _ h => h) (Or.inl ⟨by rfl, ?hy25⟩) (by assumption) ?rest25
                  case hy25 => ((intro w hSw; (try dsimp only at hSw); go_simp); (try with_reducible rfl))
                  (try simp only [Act.put, Array.getInternal_eq_getElem, List.getElem_toArray, List.getElem_cons_zero, List.getElem_cons_succ, List.setIfInBounds_toArray, List.set_cons_zero, List.set_cons_succ])
                  refine wpAnyH_take (i := 26) (oi := _) (v := ?v26) rfl (by kernel_rfl) (by kernel_rfl) (by kernel_rfl) (fun _ _ _ h => h) (Or.inl ⟨by rfl, ?hy26⟩) (by assumption) ?rest26
                  case hy26 => ((intro w hSw; (try dsimp only at hSw); go_simp); (try with_reducible rfl))
                  (try simp only [Act.put, Array.getInternal_eq_getElem, List.getElem_toArray, List.getElem_cons_zero, List.getElem_cons_succ, List.setIfInBounds_toArray, List.set_cons_zero, List.set_cons_succ])
                  refine wpAnyH_take (i := 27) (oi := _) (v := ?v27) rfl (by kernel_rfl) (by kernel_rfl) (by kernel_rfl) (fun _ _ _ h => h) (Or.inl ⟨by rfl, ?hy27⟩) (by assumption) ?rest27
                  case hy27 => ((intro w hSw; (try dsimp only at hSw); go_simp); (try with_reducible rfl))
                  (try simp only [Act.put, Array.getInternal_eq_getElem, List.getElem_toArray, List.getElem_cons_zero, List.getElem_cons_succ, List.setIfInBounds_toArray, List.set_cons_zero, List.set_cons_succ])
                  refine wpAnyH_ready (rs := [15]) (by kernel_rfl) (by simp) ?_
                  refine AllReadyH.cons (o := _) rfl (fun K hK => ?_) AllReadyH.nil
                  go_simp
                  (refine (refFar_ends N t2 _ _ l wr.drew hN htN HOK.out hl hrd).mono ?_; rintro e w2 ⟨g, c', rfl, hcell, hb2⟩; have hS2 : w2.cell? ⟨eb, eo + p * 3, none⟩ = some (.int .i64 f2) ∧ w2.cell? ⟨eb, eo + p * 3 + 1, none⟩ = some (.int .i64 t2) ∧ w2.cell? ⟨eb, eo + j * 3, none⟩ = some (.int .i64 s) := ⟨(hb2.cell (p := ⟨eb, eo + p * 3, none⟩) heb').trans hp1, (hb2.cell (p := ⟨eb, eo + p * 3 + 1, none⟩) heb').trans hp2, (hb2.cell (p := ⟨eb, eo + j * 3, none⟩) heb').trans hs1⟩; have hbe := hbd.trans (hb2.mono hsz); obtain ⟨hcf, hz1, hz2⟩ := hcell s hsN; rw [HZ.out] at hcf hz1 hz2; have hwo := OwnI.below (w := wr.drew) HO.out (Nat.le_refl _) hb2; clear hcell hb2)
                  refine hK.out _ _ hS2 (fun hHeld => ?_)
                  clear hK K
                  (try simp only [Act.put, Array.getInternal_eq_getElem, List.getElem_toArray, List.getElem_cons_zero, List.getElem_cons_succ, List.setIfInBounds_toArray, List.set_cons_zero, List.set_cons_succ])
                  refine wpAnyH_take (i := 21) (oi := _) (v := ?v21) rfl (by kernel_rfl) (by kernel_rfl) (by kernel_rfl) (fun _ _ _ h => h) (Or.inl ⟨by rfl, ?hy21⟩) (by assumption) ?rest21
                  case hy21 => ((intro w hSw; (try dsimp only at hSw); go_simp); (try with_reducible rfl))
                  (try simp only [Act.put, Array.getInternal_eq_getElem, List.getElem_toArray, List.getElem_cons_zero, List.getElem_cons_succ, List.setIfInBounds_toArray, List.set_cons_zero, List.set_cons_succ])
                  refine wpAnyH_ready (rs := [22]) (by kernel_rfl) (by simp) ?_
                  refine AllReadyH.cons (o := _) rfl (fun K hK => ?_) AllReadyH.nil
                  go_simp
                  refine hK.out _ _ hS2 (fun hHeld => ?_)
                  clear hK K
                  (try simp only [Act.put, Array.getInternal_eq_getElem, List.getElem_toArray, List.getElem_cons_zero, List.getElem_cons_succ, List.setIfInBounds_toArray, List.set_cons_zero, List.set_cons_succ])
                  refine wpAnyH_take (i := 28) (oi := _) (v := ?v28) rfl (by kernel_rfl) (by kernel_rfl) (by kernel_rfl) (fun _ _ _ h => h) (Or.inl ⟨by rfl, ?hy28⟩) (by assumption) ?rest28
                  case hy28 => ((intro w hSw; (try dsimp only at hSw); go_simp); (try with_reducible rfl))
                  (try simp only [Act.put, Array.getInternal_eq_getElem, List.getElem_toArray, List.getElem_cons_zero, List.getElem_cons_succ, List.setIfInBounds_toArray, List.set_cons_zero, List.set_cons_succ])
                  refine wpAnyH_take (i := 29) (oi := _) (v := ?v29) rfl (by kernel_rfl) (by kernel_rfl) (by kernel_rfl) (fun _ _ _ h => h) (Or.inl ⟨by rfl, ?hy29⟩) (by assumption) ?rest29
                  case hy29 => ((intro w hSw; (try dsimp only at hSw); go_simp); (try with_reducible rfl))
                  (try simp only [Act.put, Array.getInternal_eq_getElem, List.getElem_toArray, List.getElem_cons_zero, List.getElem_cons_succ, List.setIfInBounds_toArray, List.set_cons_zero, List.set_cons_succ])
                  refine wpAnyH_done (by kernel_rfl) ?_ _
                  clear hbd hrd heb' hbel
                  by_cases hzr : z = r
                  · have hpk : p = k0 := by
                      have := hst.2.2.2 p (by omega) (by rw [hg2]) (by rw [hg2]; exact HZ.out.trans hzr)
                      omega
                    have HBE := Lib.hid hbe
                    have HWO := Lib.hid hwo
                    clear hst hg2 hbe hwo
                    have hcmp : x - xs.length - 1 = (r : Int) := by omega
                    subst hpk
                    go_wp2_with (at_builtin; refine halt_ ?_)
                    refine Halt_.go ?_
                    refine wl_push _ (by rfl) (.tmp 108) (.tmp 110) 31 (by rfl) info3 Try.underlying31 w.heap.size (some ⟨ob, oo, none⟩) c xs (by rfl) (HWO.out.below (Nat.le_refl _) ((Below.refl _ _).alloc (Nat.le_refl _) _)) w2.heap.size 1 (p : Int) (by rfl) (heap_at _ _ _ rfl) (by omega) (by have := HBE.out.size; simp; omega) ?_
                    intro A4 c4 w4 hown4 hkeep
                    have hb4 := hkeep _ _ (Nat.le_refl _) (HBE.out.alloc HBE.out.size (.cells #[.int .i64 (p : Int)] 3))
                    have HO4 := Lib.hid hown4
                    clear hkeep hown4 HWO
                    go_wp2
                    go_roundg r
                    case measure => omega
                    case rel => exact ⟨A4, c4, xs ++ [(p : Int)], r, _, by simp, HG2.out, HO4.out, Nat.le_refl _, hb4⟩
                  · have hpk : p < k0 := by
                      rcases Nat.lt_or_eq_of_le hp with h | h
                      · exact h
                      · subst h
                        rw [hg2] at hst
                        exact absurd (HZ.out.symm.trans hst.2.2.1) hzr
                    have hne : ¬ z = x - xs.length - 1 := by omega
                    have HBE := Lib.hid hbe
                    have HWO := Lib.hid hwo
                    clear hst hg2 hbe hwo
                    go_wp2
                    go_roundw
                    case rel => exact ⟨p + 1, hpk, by go_num, rfl, HWO.out, HBE.out⟩
                    case measure => simp [intOf]; omega
                · have hpk : p < k0 := by
                    rcases Nat.lt_or_eq_of_le hp with h | h
                    · exact h
                    · subst h
                      rw [hg2] at hst
                      exact absurd hst.2.1 hf2
                  have HO := Lib.hid hown
                  have HB := Lib.hid hbel
                  clear hst hg2 hgs hm2 hms hmem hmes hown hbel
                  go_wp2
                  go_quiet (fail)
                  go_wp2
                  go_roundw
                  case rel => exact ⟨p + 1, hpk, by go_num, rfl, HO.out, bdrewN HB.out _⟩
                  case measure => simp [intOf]; omega
  · have hR2 : rightB n l = false := by simpa using hR
    go_enter Try.func25, Try.ntmps25
    clear hR
    go_wp2_with (go_at_call 70; refine (refRight_any _ _ _ l _ (by omega) hc).mono ?_; rintro e w1 ⟨rfl, rfl⟩)
    go_ret3
    exact ⟨none, 0, [], false, 2, rfl, .inl ⟨hR2, rfl, rfl, rfl⟩, OwnI.nil _ _, Below.refl _ _⟩
end Go.Proofs.Ytjifpjfinffamaa
