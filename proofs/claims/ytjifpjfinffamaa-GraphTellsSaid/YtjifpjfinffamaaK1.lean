/- Walk: graph.Keeps and the document's own Keeps. -/
import Derived.Test.YtjifpjfinffamaaO1
import Derived.WalkMore
namespace Go.Proofs.Ytjifpjfinffamaa
open Go.RowKit

/-- the places, as far as k nodes of the order tell them -/
def plc (N : Nat) (xs : List Int) (k : Nat) : List Int := (List.range N).map fun v : Nat => if (v : Int) ∈ xs.take k then ((xs.take k).idxOf (v : Int) : Int) + 1 else 0
theorem plc_len (N : Nat) (xs : List Int) (k : Nat) : (plc N xs k).length = N := by simp [plc]
theorem plc_nth {N : Nat} {xs : List Int} {k v : Nat} (hv : v < N) : nth (plc N xs k) v = if (v : Int) ∈ xs.take k then ((xs.take k).idxOf (v : Int) : Int) + 1 else 0 := by
  simp [nth, plc, List.getD, hv]
theorem plc_zero (N : Nat) (xs : List Int) : plc N xs 0 = List.replicate N 0 := by
  simp [plc, List.map_const']
/-- the first k are nodes, each once -/
def okU (N : Nat) (xs : List Int) (k : Nat) : Prop := ∀ j, j < k → 0 ≤ nth xs j ∧ nth xs j < N ∧ nth xs j ∉ xs.take j
theorem plc_next {N : Nat} {xs : List Int} {k v : Nat} (hk : k < xs.length) (hx : nth xs k = (v : Int)) (hv : v < N) (hn : (v : Int) ∉ xs.take k) : plc N xs (k + 1) = (plc N xs k).set v ((k : Int) + 1) := by
  apply List.ext_getElem?
  intro u
  by_cases hu : u < N
  · rw [nth_some (by rw [plc_len]; exact hu), nth_some (by rw [List.length_set, plc_len]; exact hu)]
    congr 1
    have ht : xs.take (k + 1) = xs.take k ++ [(v : Int)] := by rw [List.take_add_one, nth_some hk, hx]; rfl
    rw [plc_nth hu, nth_def, ht]
    by_cases e : u = v
    · subst e
      rw [List.getElem?_set_self (by rw [plc_len]; exact hv), if_pos (by simp), List.idxOf_append, if_neg hn]
      simp [List.length_take]
      omega
    · rw [List.getElem?_set_ne (fun e' => e e'.symm), ← nth_def, plc_nth hu]
      have e2 : ¬ (u : Int) = (v : Int) := by omega
      by_cases hm : (u : Int) ∈ xs.take k
      · rw [if_pos (by simp [hm]), if_pos hm, List.idxOf_append, if_pos hm]
      · rw [if_neg (by simp [hm, e2]), if_neg hm]
  · rw [List.getElem?_eq_none (by rw [plc_len]; omega), List.getElem?_eq_none (by rw [List.length_set, plc_len]; omega)]
theorem plc_hit {N : Nat} {xs : List Int} {k v : Nat} (hv : v < N) : ((v : Int) ∈ xs.take k ↔ 0 < nth (plc N xs k) v) ∧ 0 ≤ nth (plc N xs k) v ∧ nth (plc N xs k) v ≤ k := by
  rw [plc_nth hv]
  by_cases hm : (v : Int) ∈ xs.take k
  · rw [if_pos hm]
    have := List.idxOf_lt_length_of_mem hm
    have h2 : (xs.take k).length ≤ k := by simp; omega
    exact ⟨⟨fun _ => by omega, fun _ => hm⟩, by omega, by omega⟩
  · rw [if_neg hm]
    exact ⟨⟨fun h => absurd h hm, fun h => by omega⟩, by omega, by omega⟩
/-- does the edge go the wrong way? -/
def bad (N : Nat) (xs : List Int) (e : E) : Bool := decide (nth (plc N xs N) e.t.toNat ≤ nth (plc N xs N) e.f.toNat)
def KeepsS (n : Int) (xs : List Int) (l : List E) (b : Bool) : Prop :=
  (rightB n l = false ∧ b = false) ∨ (rightB n l = true ∧ (xs.length : Int) ≠ n ∧ b = false) ∨
  (rightB n l = true ∧ (xs.length : Int) = n ∧ ((¬ okU n.toNat xs n.toNat ∧ b = false) ∨ (okU n.toNat xs n.toNat ∧ b = !(l.any fun e => bad n.toNat xs e))))
theorem KeepsS.unique {n : Int} {xs : List Int} {l : List E} {a b : Bool} (h : KeepsS n xs l a) (h' : KeepsS n xs l b) : a = b := by
  rcases h with ⟨h1, rfl⟩ | ⟨h1, h2, rfl⟩ | ⟨h1, h2, ⟨h3, rfl⟩ | ⟨h3, rfl⟩⟩ <;> rcases h' with ⟨g1, rfl⟩ | ⟨g1, g2, rfl⟩ | ⟨g1, g2, ⟨g3, rfl⟩ | ⟨g3, rfl⟩⟩ <;> first
    | rfl
    | contradiction
    | (rw [h1] at g1; cases g1)
    | exact absurd g2 h2
    | exact absurd h2 g2
    | exact absurd h3 g3
    | exact absurd g3 h3
    | exact absurd g2 h2
    | exact absurd h2 g2

set_option linter.unusedSimpArgs false in
/-- the closure: does an edge go the wrong way? -/
theorem closure_any (pb b o : Nat) (c N : Nat) (f t : Nat) (k x y : Int) (w : World) (hb : w.cell? ⟨pb, 0, none⟩ = some (.slice (some ⟨b, o, none⟩) N c)) (hf : f < N) (ht : t < N)
    (hx : w.cell? ⟨b, o + f, none⟩ = some (.int .i64 x)) (hy : w.cell? ⟨b, o + t, none⟩ = some (.int .i64 y)) :
    Calls Try.prog 74 #[.agg #[.int .i64 f, .int .i64 t, .int .i64 k], .pointer (some ⟨pb, 0, none⟩)] w fun e w' => e = .returned (.bool (decide (y ≤ x))) ∧ Below w.heap.size w w' := by
  have i1 : (0 : Int) ≤ (f : Int) := by omega
  have i2 : (f : Int) < (N : Int) := by omega
  have i3 : (0 : Int) ≤ (t : Int) := by omega
  have i4 : (t : Int) < (N : Int) := by omega
  go_enter Try.func74, Try.ntmps74
  have hbw := World.block_lt_of_cell? w _ hb
  have hxw := World.block_lt_of_cell? w _ hx
  go_wp2
  obtain ⟨wa, hwa⟩ : ∃ wa, wa = w.alloc (.cells #[.int .i64 (f : Int), .int .i64 (t : Int), .int .i64 k] 69) := ⟨_, rfl⟩
  rw [← hwa]
  have ha := heap_at w (.cells #[.int .i64 (f : Int), .int .i64 (t : Int), .int .i64 k] 69) _ rfl
  have hba := (Below.refl w.heap.size w).alloc (Nat.le_refl _) (.cells #[.int .i64 (f : Int), .int .i64 (t : Int), .int .i64 k] 69)
  rw [← hwa] at ha hba
  have ha1 : wa.cell? ⟨w.heap.size, 0, none⟩ = some (.int .i64 f) := by rw [cell_of_row wa w.heap.size 0 _ 69 (0, 0) ha]; rfl
  have ha2 : wa.cell? ⟨w.heap.size, 1, none⟩ = some (.int .i64 t) := by rw [cell_of_row wa w.heap.size 1 _ 69 (0, 0) ha]; rfl
  have hb1 := (hba.cell (p := ⟨pb, 0, none⟩) hbw).trans hb
  have hx1 := (hba.cell (p := ⟨b, o + f, none⟩) hxw).trans hx
  have hy1 := (hba.cell (p := ⟨b, o + t, none⟩) hxw).trans hy
  have HBA := Lib.hid hba
  clear ha hba hwa hb hx hy hbw hxw
  go_region
  all_goals
    go_wp2
    go_ret
    exact ⟨rfl, HBA.out.drew⟩

def IdxEnds (N : Nat) (xs : List Int) (l : List E) (w : World) (e : Ending) (w' : World) : Prop :=
  ∃ z : Int, e = .returned (.int .i64 z) ∧ (0 ≤ z ↔ l.any (fun e => bad N xs e) = true) ∧ Below w.heap.size w w'
set_option linter.unusedSimpArgs false in
set_option maxRecDepth 100000 in
set_option maxHeartbeats 1600000 in
theorem idx_any (N pb b : Nat) (c : Nat) (xs : List Int) (A : Option Addr) (cap : Nat) (l : List E) (w : World) (ok : Ok N l) (hl : l.length ≤ 17592186044416) (hc : RE w w.heap.size A l)
    (hb : w.cell? ⟨pb, 0, none⟩ = some (.slice (some ⟨b, 0, none⟩) N c)) (hp : ∀ v, v < N → w.cell? ⟨b, v, none⟩ = some (.int .i64 (nth (plc N xs N) v))) :
    Calls Try.prog 100 #[.slice A l.length cap, .func (.func 74) #[] #[.pointer (some ⟨pb, 0, none⟩)]] w (IdxEnds N xs l w) := by
  have hbw := World.block_lt_of_cell? w _ hb
  have HP := Lib.hid hp
  have HC := Lib.hid hc
  have HB := Lib.hid hb
  have HOK := Lib.hid ok
  clear hp hc hb ok
  go_enter Try.func100, Try.ntmps100
  go_wp2
  go_loopw [8] (fun i wr => ∃ k : Nat, k ≤ l.length ∧ i = .int .i64 k ∧ Hid ((l.take k).any (fun e => bad N xs e) = false) ∧ Below w.heap.size w wr) (fun i _ => l.length - (intOf i).toNat)
  case atStart => exact ⟨0, Nat.zero_le _, rfl, Lib.hid (by simp), Below.refl _ _⟩
  case round =>
    obtain ⟨k, hk, rfl, HA, hbel⟩ := hrel
    have hsz := hbel.size
    by_cases hlt : k < l.length
    · obtain ⟨eb, eo, f, t, kk, rfl, heb, he, he1, he2, he3⟩ := HC.out.at_ hbel hlt
      have hmem := HOK.out _ (List.mem_of_getElem? he.out)
      simp only at hmem
      obtain ⟨f, rfl⟩ := Int.eq_ofNat_of_zero_le hmem.1.1
      obtain ⟨t, rfl⟩ := Int.eq_ofNat_of_zero_le hmem.2.1
      have hfN : f < N := by have := hmem.1.2; omega
      have htN : t < N := by have := hmem.2.2; omega
      have hbw2 := World.block_lt_of_cell? w _ (HP.out f hfN)
      have hq1 := (hbel.cell (p := ⟨pb, 0, none⟩) hbw).trans HB.out
      have hq2 := (hbel.cell (p := ⟨b, f, none⟩) hbw2).trans (HP.out f hfN)
      have hq3 := (hbel.cell (p := ⟨b, t, none⟩) hbw2).trans (HP.out t htN)
      have hcl := closure_any pb b 0 c N f t kk _ _ wr hq1 hfN htN (by rw [Nat.zero_add]; exact hq2) (by rw [Nat.zero_add]; exact hq3)
      have hbad : bad N xs ⟨(f : Int), (t : Int), kk⟩ = decide (nth (plc N xs N) t ≤ nth (plc N xs N) f) := by simp [bad]
      have htk : (l.take (k + 1)).any (fun e => bad N xs e) = bad N xs ⟨(f : Int), (t : Int), kk⟩ := by
        rw [List.take_add_one, he.out]
        simp only [Option.toList_some, List.any_append, HA.out, List.any_cons, List.any_nil, Bool.or_false, Bool.false_or]
      have hin : (⟨(f : Int), (t : Int), kk⟩ : E) ∈ l := List.mem_of_getElem? he.out
      have HIN := Lib.hid hin
      have HCL := Lib.hid hcl
      have HBD := Lib.hid hbad
      have HTK := Lib.hid htk
      have HBE := Lib.hid hbel
      clear hcl hbad htk hin hmem he hq1 hq2 hq3 hbel
      have i1 : (0 : Int) ≤ (k : Int) := by omega
      have i2 : (k : Int) < (l.length : Int) := by omega
      go_wp2_with (go_at_call 74; refine HCL.out.mono ?_; rintro e w2 ⟨rfl, hb2⟩; have HB2 := Lib.hid (HBE.out.trans (hb2.mono hsz)); clear hb2)
      · have hle : nth (plc N xs N) t ≤ nth (plc N xs N) f := by assumption
        go_ret
        exact ⟨k, rfl, ⟨fun _ => List.any_eq_true.2 ⟨_, HIN.out, by rw [HBD.out]; simpa using hle⟩, fun _ => by omega⟩, HB2.out⟩
      · have hle : nth (plc N xs N) f < nth (plc N xs N) t := by assumption
        go_roundw
        case rel => exact ⟨k + 1, hlt, by go_num, Lib.hid (by rw [HTK.out, HBD.out]; simpa using hle), HB2.out⟩
        case measure => simp [intOf]; omega
    · have hkl : k = l.length := by omega
      subst hkl
      rw [List.take_length] at HA
      go_wp2
      go_ret
      exact ⟨-1, rfl, ⟨fun h => by omega, fun h => by rw [HA.out] at h; cases h⟩, hbel⟩
set_option linter.unusedSimpArgs false in
theorem contains_any (N pb b : Nat) (c : Nat) (xs : List Int) (A : Option Addr) (cap : Nat) (l : List E) (w : World) (ok : Ok N l) (hl : l.length ≤ 17592186044416) (hc : RE w w.heap.size A l)
    (hb : w.cell? ⟨pb, 0, none⟩ = some (.slice (some ⟨b, 0, none⟩) N c)) (hp : ∀ v, v < N → w.cell? ⟨b, v, none⟩ = some (.int .i64 (nth (plc N xs N) v))) :
    Calls Try.prog 73 #[.slice A l.length cap, .func (.func 74) #[] #[.pointer (some ⟨pb, 0, none⟩)]] w fun e w' => e = .returned (.bool (l.any fun e => bad N xs e)) ∧ Below w.heap.size w w' := by
  have hix := idx_any N pb b c xs A cap l w ok hl hc hb hp
  have HIX := Lib.hid hix
  clear hix ok hc hb hp
  go_enter Try.func73, Try.ntmps73
  go_wp2_with (go_at_call 100; refine HIX.out.mono ?_; rintro e w2 ⟨z, rfl, hz, hb2⟩; have HZ := Lib.hid hz; clear hz)
  go_ret
  refine ⟨?_, hb2⟩
  have := HZ.out
  by_cases h0 : 0 ≤ z
  · rw [this.1 h0]; simp [h0]
  · have h1 : (l.any fun e => bad N xs e) = false := by
      rw [← Bool.not_eq_true]
      exact fun h => h0 (this.2 h)
    rw [h1]; simp [h0]

def KeepsEnds (n : Int) (xs : List Int) (l : List E) (w : World) (e : Ending) (w' : World) : Prop :=
  ∃ b : Bool, e = .returned (.bool b) ∧ KeepsS n xs l b ∧ Below w.heap.size w w'
set_option linter.unusedSimpArgs false in
set_option maxRecDepth 100000 in
set_option maxHeartbeats 3200000 in
theorem keeps_any (n : Int) (A3 : Option Addr) (cap3 : Nat) (xs : List Int) (A : Option Addr) (cap : Nat) (l : List E) (w : World) (hl : l.length * 24 ≤ 140737488351232) (hc : RE w w.heap.size A l) (hx : RK .i64 w w.heap.size A3 xs) :
    Calls Try.prog 32 #[.int .i64 n, .slice A3 xs.length cap3, .slice A l.length cap] w (KeepsEnds n xs l w) := by
  by_cases hR : rightB n l = true
  · obtain ⟨N, rfl, hN, ok⟩ := right_ok hR
    have HOK := Lib.hid ok
    have HR := Lib.hid hR
    have HC := Lib.hid hc
    have HX := Lib.hid hx
    have hri := right_any (N : Int) A cap l w (by omega) hc
    rw [hR] at hri
    have HRI := Lib.hid hri
    clear ok hR hc hx hri
    by_cases hxn : xs.length = N
    · go_enter Try.func32, Try.ntmps32
      go_wp2_with (first
        | (go_at_call 67; refine HRI.out.mono ?_; rintro e w1 ⟨rfl, hb1⟩)
        | (at_make; refine halt_ ?_))
      refine Halt_.go ?_
      have hs1 := hb1.size
      obtain ⟨i0, hi, hz0, hz1, hz2⟩ := info_parts info3
      refine wpList_make_full _ rfl _ _ 31 rfl w1.heap.size 3 i0 _ 1 Try.underlying31 hi hz0 hz1 _ _ _ _ N (by rfl) (by rfl) rfl rfl (by rw [hz2]; omega) (by unfold maxLen; omega) (Nat.le_refl _) ?_
      intro w3 hown1 hgrow1
      have hds : (madeCells (Value.int .i64 0).cells (N * 1)).toList = ints (List.replicate N 0) := by
        rw [show (Value.int .i64 0).cells = #[Value.int .i64 0] from rfl, toList_madeCells_one, Nat.mul_one]
        simp [ints]
      rw [hds, ← plc_zero N xs] at hown1
      have hb3 : Below w1.heap.size w1 w3 := (Below.refl _ _).grown hgrow1 (Nat.le_refl _) (fun g hg => by cases hg)
      obtain ⟨g0, hg0⟩ : ∃ g0, g0 = w1.heap.size := ⟨_, rfl⟩
      have hbw : Below w.heap.size w w3 := hb1.trans (hb3.mono hs1)
      rw [← hg0] at hown1 hs1
      rw [← hg0]
      have hg3 := (hown1.lt g0 rfl).2
      have HO := Lib.hid hown1
      have HBW := Lib.hid hbw
      clear hds hgrow1 hi hz0 hz1 hz2 hb3 hb1 hown1 hbw hg0
      obtain ⟨pb, hpb⟩ : ∃ pb, pb = w3.heap.size := ⟨_, rfl⟩
      obtain ⟨w4, hw4⟩ : ∃ w4, w4 = w3.alloc (.cells #[.slice (some ⟨g0, 0, none⟩) N N] 31) := ⟨_, rfl⟩
      have hcb : w4.cell? ⟨pb, 0, none⟩ = some (.slice (some ⟨g0, 0, none⟩) N N) := by
        rw [cell_of_row w4 pb 0 _ 31 (0, 0) (by rw [hw4]; exact heap_at _ _ _ hpb.symm)]; rfl
      have ho4 : w4.ownsRow g0 3 1 (.slice (some ⟨g0, 0, none⟩) N N) N (ints (plc N xs 0)) := by rw [hw4]; exact HO.out.alloc _
      have hb4 : Below w.heap.size w w4 := by rw [hw4]; exact HBW.out.alloc HBW.out.size _
      have hgp : g0 < pb := by omega
      have HCB := Lib.hid hcb
      have HO4 := Lib.hid ho4
      have HB4 := Lib.hid hb4
      clear hcb ho4 hb4 HO HBW hg3
      go_wp2
      rw [← hw4, ← hpb]
      clear hw4 hpb
      try go_wp2
      go_loopw [24] (fun i wr => ∃ k : Nat, k ≤ xs.length ∧ i = .int .i64 k ∧ Hid (okU N xs k) ∧ wr.ownsRow g0 3 1 (.slice (some ⟨g0, 0, none⟩) N N) N (ints (plc N xs k)) ∧ wr.cell? ⟨pb, 0, none⟩ = some (.slice (some ⟨g0, 0, none⟩) N N) ∧ Below w.heap.size w wr) (fun i _ => xs.length - (intOf i).toNat)
      case atStart => exact ⟨0, Nat.zero_le _, rfl, Lib.hid fun j hj => absurd hj (Nat.not_lt_zero _), HO4.out, HCB.out, HB4.out⟩
      case round =>
        clear HO4 HCB HB4
        obtain ⟨k, hk, rfl, HU, hown, hcb, hbel⟩ := hrel
        have hpw := World.block_lt_of_cell? wr _ hcb
        by_cases hlt : k < xs.length
        · obtain ⟨xb, xo, x, rfl, hxb, hxk, hcx⟩ := HX.out.at_ hbel hlt
          have hnx : nth xs k = x := by rw [nth_get hlt]; have := hxk.out; rw [List.getElem?_eq_getElem hlt] at this; injection this
          have HNX := Lib.hid hnx
          have i1 : (0 : Int) ≤ (k : Int) := by omega
          have i2 : (k : Int) < (xs.length : Int) := by omega
          clear hnx hxk
          by_cases h1 : x < 0
          · clear hown
            go_wp2
            go_ret
            exact ⟨false, rfl, .inr (.inr ⟨HR.out, by omega, .inl ⟨fun h => by have := h k (by omega); rw [HNX.out] at this; omega, rfl⟩⟩), hbel⟩
          · by_cases h2 : (N : Int) ≤ x
            · clear hown
              go_wp2
              go_ret
              exact ⟨false, rfl, .inr (.inr ⟨HR.out, by omega, .inl ⟨fun h => by have := h k (by omega); rw [HNX.out] at this; omega, rfl⟩⟩), hbel⟩
            · obtain ⟨v, rfl⟩ := Int.eq_ofNat_of_zero_le (show 0 ≤ x by omega)
              have hv : v < N := by omega
              have hph := plc_hit (xs := xs) (k := k) hv
              have hcz : wr.cell? ⟨g0, v, none⟩ = some (.int .i64 (nth (plc N xs k) v)) := by
                rw [hown.cellAt v (by omega)]
                simp [ints, nth_some (show v < (plc N xs k).length by rw [plc_len]; exact hv)]
              have hfz := hown.frozenAt v
              have hgw := (hown.lt g0 rfl).2
              have HOW := Lib.hid hown
              obtain ⟨z, hz⟩ : ∃ z, nth (plc N xs k) v = z := ⟨_, rfl⟩
              rw [hz] at hcz hph
              have hz2 := hph.2
              have HPH := Lib.hid hph.1
              have HZ := Lib.hid hz
              have i3 : (0 : Int) ≤ (v : Int) := by omega
              have i4 : (v : Int) < (N : Int) := by omega
              have i5 : ¬ (v : Int) < 0 := by omega
              clear hph hz hown
              by_cases h3 : 0 < z
              · go_wp2
                go_ret
                exact ⟨false, rfl, .inr (.inr ⟨HR.out, by omega, .inl ⟨fun h => by have := (h k (by omega)).2.2; rw [HNX.out] at this; exact this (HPH.out.2 h3), rfl⟩⟩), hbel⟩
              · have hnm : (v : Int) ∉ xs.take k := fun h => h3 (HPH.out.1 h)
                have hset := own_set HOW.out v ((k : Int) + 1)
                rw [← plc_next hlt HNX.out hv hnm] at hset
                have hu2 : okU N xs (k + 1) := by
                  intro j hj
                  rcases Nat.lt_or_ge j k with h | h
                  · exact HU.out j h
                  · obtain rfl : j = k := by omega
                    rw [HNX.out]
                    exact ⟨i3, i4, hnm⟩
                have HS := Lib.hid hset
                have HU2 := Lib.hid hu2
                have hne : ¬ pb = g0 := by omega
                clear hnm hset hu2
                go_wp2
                go_roundw
                case rel => exact ⟨k + 1, hlt, by go_num, HU2, HS.out, by rw [World.cell?_setCell_other _ _ _ _ (by simp)]; exact hcb, hbel.setCell hs1 _⟩
                case measure => simp [intOf]; omega
        · have hkN : k = N := by omega
          subst hkN
          have hpc : ∀ v, v < k → wr.cell? ⟨g0, v, none⟩ = some (.int .i64 (nth (plc k xs k) v)) := by
            intro v hv
            rw [hown.cellAt v (by omega)]
            simp [ints, nth_some (show v < (plc k xs k).length by rw [plc_len]; exact hv)]
          have hcn := contains_any k pb g0 k xs A cap l wr HOK.out (by omega) ((HC.out.below hbel).more hbel.size) hcb hpc
          have HCN := Lib.hid hcn
          clear hpc hcn hown
          go_wp2_with (go_at_call 73; refine HCN.out.mono ?_; rintro e w5 ⟨rfl, hb5⟩)
          go_ret
          exact ⟨_, rfl, .inr (.inr ⟨HR.out, by omega, .inr ⟨HU.out, rfl⟩⟩), hbel.trans (hb5.mono hbel.size)⟩
    · have hne : ¬ (xs.length : Int) = (N : Int) := by omega
      go_enter Try.func32, Try.ntmps32
      go_wp2_with (go_at_call 67; refine HRI.out.mono ?_; rintro e w1 ⟨rfl, hb1⟩)
      go_ret
      exact ⟨false, rfl, .inr (.inl ⟨HR.out, hne, rfl⟩), hb1⟩
  · have hR2 : rightB n l = false := by simpa using hR
    have hri := right_any n A cap l w (by omega) hc
    rw [hR2] at hri
    clear hR
    go_enter Try.func32, Try.ntmps32
    go_wp2_with (go_at_call 67; refine hri.mono ?_; rintro e w1 ⟨rfl, hb1⟩)
    go_ret
    exact ⟨false, rfl, .inl ⟨hR2, rfl⟩, hb1⟩
end Go.Proofs.Ytjifpjfinffamaa
