/- Walk: graph.Round. -/
import Derived.Test.YtjifpjfinffamaaW8
namespace Go.Proofs.Ytjifpjfinffamaa
open Go.RowKit

theorem far_ends (N σ : Nat) (A A3 : Option Addr) (cap c3 : Nat) (l : List E) (w : World) (hN : N ≤ 65536) (hσ : σ < N) (ok : Ok N l) (hl : l.length * 24 ≤ 140737488351232) (hc : RE w w.heap.size A l) (hr : RR w w.heap.size A3 (outRows l N)) :
    Calls Try.prog 69 #[.int .i64 N, .int .i64 σ, .slice A l.length cap, .slice A3 N c3] w (FarEnds N σ l w) :=
  (far_any N σ A A3 cap c3 l w hN hσ ok hl hc hr).mono fun _ _ ⟨c', d, he, hd, hown, hb, hsm⟩ => ⟨_, c', he, fun v hv => by
    have hl := own_len hown
    have e := dst_eq hd (v := (v : Int)) ⟨by omega, by omega⟩
    rw [own_cell hown (by omega), ← e]
    have h1 := hsm v (by omega) (by omega)
    have h2 := hd.wk v (by omega) (by omega)
    exact ⟨rfl, by omega, h1⟩, hb⟩

theorem dst_turn (l : List E) (s v : Int) : dst (turn l) s v = dst l v s := by
  rcases dst_wk (turn l) s v with h1 | ⟨h1, w1⟩ <;> rcases dst_wk l v s with h2 | ⟨h2, w2⟩
  · rw [h1, h2]
  · have := (dst_le w2.turned).1; omega
  · have := (dst_le w1.back).1; omega
  · have a := dst_le w2.turned
    have b := dst_le w1.back
    omega
theorem outRow_sorted (l : List E) (a k : Nat) : (outRow l a k).Pairwise (· < ·) := by
  unfold outRow
  rw [List.pairwise_map]
  exact (List.pairwise_lt_range.filter _).imp fun h => Int.ofNat_lt.2 h
theorem outRow_mem {l : List E} {a k j : Nat} (h : j < k) (hf : (eg l j).f = (a : Int)) : (j : Int) ∈ outRow l a k := by
  simp only [outRow, List.mem_map, List.mem_filter, List.mem_range, decide_eq_true_eq]
  exact ⟨j, ⟨h, hf⟩, rfl⟩
/-- the first in a row that serves -/
theorem row_first {l : List E} {t : Nat} {s : Int} {r k0 q i : Nat} (hk : k0 < l.length ∧ (eg l k0).f = (t : Int) ∧ dst l (eg l k0).t s = r ∧ ∀ i, i < l.length → (eg l i).f = (t : Int) → dst l (eg l i).t s = r → k0 ≤ i)
    (hno : ∀ q', q' < q → ∀ i : Nat, (outRow l t l.length)[q']? = some (i : Int) → dst l (eg l i).t s ≠ r) (hi : (outRow l t l.length)[q]? = some (i : Int)) (hit : dst l (eg l i).t s = r) : i = k0 := by
  obtain ⟨j, hj, hjl, hjf⟩ := mem_outRow (List.mem_of_getElem? hi)
  have : i = j := by omega
  subst this
  have h1 := hk.2.2.2 i hjl hjf hit
  obtain ⟨q0, hq0, he⟩ := List.mem_iff_getElem.1 (outRow_mem (l := l) (k := l.length) hk.1 hk.2.1)
  have hs := outRow_sorted l t l.length
  rcases Nat.lt_or_eq_of_le h1 with h | h
  · exfalso
    have hq : q < (outRow l t l.length).length := (List.getElem?_eq_some_iff.1 hi).1
    have hqi : (outRow l t l.length)[q] = (i : Int) := (List.getElem?_eq_some_iff.1 hi).2
    rcases Nat.lt_trichotomy q0 q with h2 | h2 | h2
    · exact hno q0 h2 k0 (by rw [List.getElem?_eq_getElem hq0, he]) hk.2.2.1
    · subst h2; rw [he] at hqi; omega
    · have := List.pairwise_iff_getElem.1 hs q q0 hq hq0 h2
      rw [hqi, he] at this
      omega
  · exact h.symm
theorem row_has {l : List E} {t : Nat} {s : Int} {r k0 q : Nat} (hk : k0 < l.length ∧ (eg l k0).f = (t : Int) ∧ dst l (eg l k0).t s = r)
    (hno : ∀ q', q' < q → ∀ i : Nat, (outRow l t l.length)[q']? = some (i : Int) → dst l (eg l i).t s ≠ r) : q < (outRow l t l.length).length := by
  obtain ⟨q0, hq0, he⟩ := List.mem_iff_getElem.1 (outRow_mem (l := l) (k := l.length) hk.1 hk.2.1)
  rcases Nat.lt_or_ge q0 q with h | h
  · exact absurd hk.2.2 (hno q0 h k0 (by rw [List.getElem?_eq_getElem hq0, he]))
  · omega
/-- a list of edges that the call itself has made -/
def OwnE (w : World) (base : Nat) (A : Option Addr) (c : Nat) (l : List E) : Prop := w.ownsRow base 69 3 (.slice A l.length c) l.length (l.flatMap ecells)
theorem OwnE.nil (w : World) (base : Nat) : OwnE w base none 0 [] := World.ownsRow_nil w base 69 3
theorem OwnE.reads {w : World} {base : Nat} {A : Option Addr} {c : Nat} {l : List E} (h : OwnE w base A c l) : RE w w.heap.size A l := RE.of_own (more := []) (by rw [List.append_nil]; exact h)
theorem OwnE.below {w w' : World} {base B : Nat} {A : Option Addr} {c : Nat} {xs : List E} (h : OwnE w base A c xs) (hw : w.heap.size ≤ B) (hb : Below B w w') : OwnE w' base A c xs := by
  refine ⟨h.1, ?_⟩
  rcases h.2 with h2 | ⟨g, cap, cur, hv, hbg, hh, h3⟩
  · exact .inl h2
  · exact .inr ⟨g, cap, cur, hv, hbg, (hb.block g (Nat.lt_of_lt_of_le (Array.getElem?_eq_some_iff.1 hh).1 hw)).trans hh, h3⟩
section
variable {P : Program} (w : World)
theorem wl_pushE {ops : Array Oper} {rest : List Oper} {o : Oper} {a : Act} {Q : Exit → Act → World → Prop} (hgd : o.guard = none) (s x : Operand) (t : TypeId)
    (ho : o.op = .call { callee := .builtin .append, args := #[s, x], argTypes := #[t, t] })
    (hinfo : (P.info? 69).map (fun i => (i.zero, i.size, i.bytes)) = some (some (.agg #[.int .i64 0, .int .i64 0, .int .i64 0]), 3, 24)) (ht : P.underlying t = some (.slice 69))
    (base : Nat) (A : Option Addr) (c : Nat) (xs : List E) (hs : a.eval s = .slice A xs.length c) (hown : OwnE w base A c xs)
    (b c1 : Nat) (y : E) (hx : a.eval x = .slice (some ⟨b, 0, none⟩) 1 c1) (hb : w.heap[b]? = some (.cells (ecells y).toArray 69 (0, 0)))
    (hbytes : xs.length * 24 ≤ 140737488351232) (hbase : base ≤ w.heap.size)
    (h : ∀ A' c' w', OwnE w' base A' c' (xs ++ [y]) → (∀ a B, B ≤ base → Below B a w → Below B a w') → wpList P ops Q rest (a.put o.dst (.slice A' (xs.length + 1) c')) w') : wpList P ops Q (o :: rest) a w := by
  refine wl_append1 w hgd s x t ho base 69 (.agg #[.int .i64 0, .int .i64 0, .int .i64 0]) 3 24 hinfo ht rfl (by decide) _ _ _ hs hown b c1 (ecells y) hx hb rfl (by simp [ecells, Value.oneCell']) (by omega) (by omega) hbase _ rfl ?_
  intro g cap w' h1 h2 h3 h4
  refine h _ _ w' ?_ fun a B hB hbel => hbel.grown h2 (Nat.le_trans hB hbase) fun k hk => Nat.le_trans hB (hown.lt k hk).1
  unfold OwnE
  rw [show (xs ++ [y]).length = xs.length + 1 from by simp, show (xs ++ [y]).flatMap ecells = xs.flatMap ecells ++ ecells y from by simp]
  exact h1
end

set_option linter.unusedSimpArgs false in
set_option maxRecDepth 100000 in
set_option maxHeartbeats 3200000 in
theorem round_any (n : Int) (A : Option Addr) (cap : Nat) (l : List E) (w : World) (hl : l.length * 24 ≤ 140737488351232) (hc : RE w w.heap.size A l) :
    Calls Try.prog 24 #[.int .i64 n, .slice A l.length cap] w (RoundEnds n l w) := by
  by_cases hR : rightB n l = true
  · obtain ⟨N, rfl, hN, ok⟩ := right_ok hR
    go_enter Try.func24, Try.ntmps24
    have HOK := Lib.hid ok
    clear ok
    go_wp2_with (first
      | (go_at_call 67; refine (right_any _ _ _ l _ (by omega) hc).mono ?_; rintro e w1 ⟨rfl, hb1⟩; have hc1 := (hc.below hb1).more hb1.size)
      | (go_at_call 68; refine (out_any N _ _ l _ hN HOK.out hl hc1).mono ?_; rintro e w2 ⟨A3, c3, rfl, hr2, hb2⟩; have hc2 := (hc1.below hb2).more hb2.size))
    have hbw : Below w.heap.size w w2 := hb1.trans (hb2.mono hb1.size)
    have HBW := Lib.hid hbw
    have hws := hbw.size
    have HR := Lib.hid hR
    clear hR hc hc1 hb1 hb2 hbw
    go_loopw [8, 9, 29] (fun a b i wr => ∃ (k : Nat) (x y : Int), k ≤ l.length ∧ a = .int .i64 y ∧ b = .int .i64 x ∧ i = .int .i64 k ∧ PickR 0 l k x y ∧ x ≤ N ∧ Below w2.heap.size w2 wr) (fun a b i _ => l.length - (intOf i).toNat)
    case atStart => exact ⟨0, 0, -1, Nat.zero_le _, rfl, rfl, rfl, .inl ⟨rfl, rfl, rfl⟩, by omega, Below.refl _ _⟩
    case round =>
      obtain ⟨k, x, y, hk, rfl, rfl, rfl, hp, hxN, hbel⟩ := hrel
      by_cases hlt : k < l.length
      · obtain ⟨eb, eo, f, t, kk, rfl, heb, he, he1, he2, he3⟩ := hc2.at_ hbel hlt
        have heg : eg l k = ⟨f, t, kk⟩ := by simp [eg, List.getD, he.out]
        have hmem := HOK.out _ (List.mem_of_getElem? he.out)
        simp only at hmem
        obtain ⟨f, rfl⟩ := Int.eq_ofNat_of_zero_le hmem.1.1
        obtain ⟨t, rfl⟩ := Int.eq_ofNat_of_zero_le hmem.2.1
        have hfN : f < N := by have := hmem.1.2; omega
        have htN : t < N := by have := hmem.2.2; omega
        have hgap : gap l k = dst l t f := by simp [gap, heg]
        have i1 : (0 : Int) ≤ (f : Int) := by omega
        have i2 : (f : Int) < (N : Int) := by omega
        have i3 : (0 : Int) ≤ (k : Int) := by omega
        have i4 : (k : Int) < (l.length : Int) := by omega
        have hsz := hbel.size
        have HP := Lib.hid hp
        have HG := Lib.hid hgap
        have HC := Lib.hid hc2
        have HRR := Lib.hid hr2
        have HB := Lib.hid hbel
        clear hp hmem heg he hgap hc2 hbel hr2
        go_wp2
        obtain ⟨wa, hwa⟩ : ∃ wa, wa = wr.alloc (.cells #[.int .i64 (f : Int), .int .i64 (t : Int), .int .i64 kk] 69) := ⟨_, rfl⟩
        rw [← hwa]
        have ha := heap_at wr (.cells #[.int .i64 (f : Int), .int .i64 (t : Int), .int .i64 kk] 69) _ rfl
        have hba := HB.out.alloc hsz (.cells #[.int .i64 (f : Int), .int .i64 (t : Int), .int .i64 kk] 69)
        rw [← hwa] at ha hba
        have ha1 : wa.cell? ⟨wr.heap.size, 0, none⟩ = some (.int .i64 f) := by rw [cell_of_row wa wr.heap.size 0 _ 69 (0, 0) ha]; rfl
        have ha2 : wa.cell? ⟨wr.heap.size, 1, none⟩ = some (.int .i64 t) := by rw [cell_of_row wa wr.heap.size 1 _ 69 (0, 0) ha]; rfl
        have hga : wr.heap.size < wa.drew.heap.size := (Array.getElem?_eq_some_iff.1 ha).1
        generalize hgb : wr.heap.size = gb at *
        have hbd := hba.drew
        have hrd : RE wa.drew wa.drew.heap.size (some ⟨eb, eo, none⟩) l := (HC.out.below hbd).more hbd.size
        have hrr : RR wa.drew wa.drew.heap.size A3 (outRows l N) := (HRR.out.below hbd).more hbd.size
        have HE := Lib.hid hbd
        clear ha hba hwa he1 he2 he3 hbd
        go_region_with (go_at_call 69; refine (far_ends N t _ _ _ _ l wa.drew hN htN HOK.out hl hrd hrr).mono ?_; rintro e w3 ⟨g, c', rfl, hcell, hb3⟩; have hc1 : w3.cell? ⟨gb, 0, none⟩ = some (.int .i64 f) := (hb3.cell (p := ⟨gb, 0, none⟩) hga).trans ha1; have hc2 : w3.cell? ⟨gb, 1, none⟩ = some (.int .i64 t) := (hb3.cell (p := ⟨gb, 1, none⟩) hga).trans ha2; have hbe := HE.out.trans (hb3.mono HE.out.size); obtain ⟨hcf, hz1, hz2⟩ := hcell f hfN; clear hcell hb3)
        all_goals
          have HE3 := Lib.hid (hbe : Below w2.heap.size w2 w3)
          clear hrd hrr hbe hga
          generalize hz : dst l (t : Int) (f : Int) = z at *
          clear hz
          have HXY := Lib.hid HP.out.pos
          go_wp2
          all_goals
            have hxy := HXY.out
            go_roundw
            case rel =>
              first
              | exact ⟨k + 1, z + 1, k, hlt, rfl, rfl, by go_num, HP.out.take HG.out (by omega) (by omega), by omega, HE3.out⟩
              | exact ⟨k + 1, x, y, hlt, rfl, rfl, by go_num, HP.out.keep HG.out (by omega), hxN, HE3.out⟩
            case measure => simp [intOf]; omega
      · have hkl : k = l.length := by omega
        subst hkl
        have hxy := hp.pos
        by_cases hy : y < 0
        · have hnone : pick (gap l) l.length = none := by
            rcases hp with h | ⟨j, _, h⟩
            · exact h.1
            · omega
          have hbf := HBW.out.trans (hbel.mono hws)
          clear hp hxy
          go_wp2
          go_ret3
          exact ⟨none, 0, [], false, 0, rfl, .inr ⟨HR.out, rfl, .inl ⟨hnone, rfl, rfl⟩⟩, OwnI.nil _ _, hbf⟩
        · obtain ⟨j, hpk, rfl⟩ : ∃ j : Nat, pick (gap l) l.length = some (j, x) ∧ y = j := by
            rcases hp with h | h
            · omega
            · exact h
          have hG := Grows.start hpk
          have hps := pick_some hpk
          have HG := Lib.hid hG
          have HP := Lib.hid hpk
          have hjl := hps.1
          have hsz := hbel.size
          have HC := Lib.hid hc2
          have HRR := Lib.hid hr2
          clear hp hpk hG hps hc2 hr2
          go_wp2
          go_loopw [13, 63] (fun v i wr => ∃ (p : Nat) (A' : Option Addr) (c' : Nat), p ≤ l.length ∧ i = .int .i64 p ∧ v = .slice A' (turn (l.take p)).length c' ∧ OwnE wr w2.heap.size A' c' (turn (l.take p)) ∧ Below w2.heap.size w2 wr) (fun v i _ => l.length - (intOf i).toNat)
          case atStart => exact ⟨0, none, 0, Nat.zero_le _, rfl, rfl, OwnE.nil _ _, hbel⟩
          case round =>
            clear hbel hsz
            obtain ⟨p, A', c', hp, rfl, rfl, hown, hbel⟩ := hrel
            have hsz := hbel.size
            by_cases hlt2 : p < l.length
            · obtain ⟨eb, eo, f, t, kk, rfl, heb, he, he1, he2, he3⟩ := HC.out.at_ hbel hlt2
              have htk : turn (l.take (p + 1)) = turn (l.take p) ++ [⟨t, f, 0⟩] := by rw [List.take_add_one, he.out]; simp [turn]
              have htl : (turn (l.take p)).length = p := by simp [turn]; omega
              have HT := Lib.hid htk
              have HO := Lib.hid hown
              clear he htk hown
              go_wp2_with (at_builtin; refine halt_ ?_)
              refine Halt_.go ?_
              have hba := (((Below.refl wr.heap.size wr).alloc (Nat.le_refl _) (.cells #[.int .i64 f, .int .i64 t, .int .i64 kk] 69)).alloc (by simp) (.cells #[.int .i64 t, .int .i64 f, .int .i64 0] 69))
              refine wl_pushE _ (by rfl) (.tmp 67) (.tmp 73) 48 (by rfl) info69 Try.underlying48 w2.heap.size A' c' (turn (l.take p)) (by rfl) (HO.out.below (Nat.le_refl _) hba) (wr.heap.size + 1) 1 ⟨t, f, 0⟩ (by rfl) (heap_at _ _ _ (by simp)) (by omega) (by simp; omega) ?_
              intro A4 c4 w4 hown4 hkeep
              have hb4 := hkeep _ _ (Nat.le_refl _) (hbel.trans (hba.mono hsz))
              rw [← HT.out] at hown4
              have hlen4 : (turn (l.take p)).length + 1 = (turn (l.take (p + 1))).length := by rw [HT.out]; simp
              rw [hlen4]
              have HO4 := Lib.hid hown4
              clear hkeep hown4 HO hba hlen4 htl hbel
              go_wp2
              go_roundw
              case rel => exact ⟨p + 1, A4, c4, hlt2, by go_num, rfl, HO4.out, hb4⟩
              case measure => simp [intOf]; omega
            · have hpl : p = l.length := by omega
              subst hpl
              rw [List.take_length] at hown ⊢
              have htl : (turn l).length = l.length := by simp [turn]
              rw [htl]
              go_wp2
              obtain ⟨eb, eo, s, ts, ks, rfl, heb, he, he1, he2, he3⟩ := HC.out.at_ hbel hjl
              have hegj : eg l j = ⟨s, ts, ks⟩ := by simp [eg, List.getD, he.out]
              have hmes := HOK.out _ (List.mem_of_getElem? he.out)
              simp only at hmes
              obtain ⟨s, rfl⟩ := Int.eq_ofNat_of_zero_le hmes.1.1
              have hsN : s < N := by have := hmes.1.2; omega
              have okt := HOK.out.turn
              have hrt : RE wr.drew wr.drew.heap.size A' (turn l) := hown.reads
              have hlt3 : (turn l).length * 24 ≤ 140737488351232 := by omega
              have heb' : eb < wr.drew.heap.size := by have := hbel.size; exact Nat.lt_of_lt_of_le heb this
              have i1 : (0 : Int) ≤ (j : Int) := by omega
              have i2 : (j : Int) < (l.length : Int) := by omega
              have hbd := hbel.drew
              have HEJ := Lib.hid hegj
              have HOKT := Lib.hid okt
              have HTL := Lib.hid htl
              have HRT := Lib.hid hrt
              have HBD := Lib.hid hbd
              clear hegj he hmes okt hown hrt hbel hbd he2 he3
              have ho := out_any N A' c' (turn l) wr.drew hN HOKT.out hlt3 HRT.out
              rw [HTL.out] at ho
              go_region_with (first
                | (go_at_call 68; refine ho.mono ?_; rintro e w5 ⟨A5, c5, rfl, hr5, hb5⟩; have hq1 : w5.cell? ⟨eb, eo + j * 3, none⟩ = some (.int .i64 s) := (hb5.cell (p := ⟨eb, eo + j * 3, none⟩) heb').trans he1)
                | (go_at_call 69; have hf := far_ends N s A' A5 c' c5 (turn l) w5 hN hsN HOKT.out hlt3 ((HRT.out.below hb5).more hb5.size) hr5; rw [HTL.out] at hf; refine hf.mono ?_; rintro e w6 ⟨g, c6, rfl, hback, hb6⟩; have hbe := HBD.out.trans ((hb5.trans (hb6.mono hb5.size)).mono HBD.out.size); have HBE := Lib.hid hbe; have HBK := Lib.hid hback; have HGL := Lib.hid hb6; clear hbe hback hb6))
              all_goals
                have hbw6 := HBE.out
                have hbk : ∀ v : Nat, v < N → w6.cell? ⟨g, v, none⟩ = some (.int .i64 (dst l v s)) ∧ -1 ≤ dst l v s ∧ dst l v s < N := by
                  intro v hv
                  have := HBK.out v hv
                  rw [dst_turn] at this
                  exact this
                have hgl : g < w6.heap.size := World.block_lt_of_cell? w6 ⟨g, s, none⟩ (hbk s hsN).1
                have HBK2 := Lib.hid hbk
                have HB6 := Lib.hid hbw6
                clear hbk hbw6 hq1 hr5 ho hf
                go_wp2
                go_loopg [17] x.toNat (fun gk v wr => ∃ (B : Option Addr) (c : Nat) (xs : List Int) (r last : Nat), v = .slice B xs.length c ∧ Grows l j x xs r last ∧ OwnI wr w6.heap.size B c xs ∧ r ≤ gk ∧ Below w6.heap.size w6 wr)
                case atStart =>
                  refine ⟨_, _, [(j : Int)], _, _, rfl, HG.out, ?_, by omega, (Below.refl _ _).alloc (Nat.le_refl _) _⟩
                  exact World.ownsRow_lit w6 #[.int .i64 (j : Int)] 1 (Nat.le_refl _) (by decide) rfl
                case round =>
                  clear HG
                  obtain ⟨B, c, xs, r, last, rfl, hG, hown, hgk, hbel⟩ := hrel
                  have hsz := hbel.size
                  have hlen := hG.len
                  cases r with
                  | zero =>
                    have hfin := hG.fin
                    have HF := Lib.hid hfin
                    have hb9 := HBW.out.trans ((HB6.out.trans (hbel.mono HB6.out.size)).mono hws)
                    have hn0 : ¬ (xs.length : Int) < x := by omega
                    clear hG hfin
                    go_wp2
                    go_ret3
                    exact ⟨B, c, xs, true, 0, rfl, .inr ⟨HR.out, rfl, .inr ⟨j, x, HP.out, HF.out, rfl⟩⟩, hown.base (Nat.le_trans hws HB6.out.size), hb9⟩
                  | succ r =>
                    obtain ⟨hpos, hlast⟩ := hG.getLast
                    have hll := hG.lt
                    have hfar := hG.far
                    have hst := step_spec (l := l) (v := (eg l last).t) (s := (eg l j).f) (k := r) (by omega)
                    have hG2 := hG.step
                    obtain ⟨ob, oo, ov, rfl, hob, hov, hoc⟩ := hown.reads.at_ (Below.refl _ _) (k := xs.length - 1) (by omega)
                    have hovl : ov = (last : Int) := Option.some.inj (hov.out.symm.trans hlast)
                    subst hovl
                    have hbr := HB6.out.trans (hbel.mono HB6.out.size)
                    obtain ⟨f, t, kk, _, heg, hm, he1, he2⟩ := HC.out.at2 hbr hll
                    have hmem := HOK.out _ hm
                    simp only at hmem
                    obtain ⟨t, rfl⟩ := Int.eq_ofNat_of_zero_le hmem.2.1
                    have htN : t < N := by have := hmem.2.2; omega
                    have htt : (eg l last).t = (t : Int) := by rw [heg]
                    have hss : (eg l j).f = (s : Int) := by rw [HEJ.out]
                    rw [htt, hss] at hst hG2
                    generalize hk0 : step l (s : Int) r (t : Int) = k0 at hst hG2
                    obtain ⟨rb, ro, Ar, cr, rfl, hrb, hcr, hrk⟩ := RR_at HRR.out hbr (k := t) (by simp [outRows]; omega)
                    have hrow : (outRows l N)[t]'(by simp [outRows]; omega) = outRow l t l.length := by simp [outRows]
                    rw [hrow] at hcr hrk
                    have HST := Lib.hid hst
                    have HG2 := Lib.hid hG2
                    have HO := Lib.hid hown
                    have HR2 := Lib.hid hrk
                    have i1 : (0 : Int) ≤ (last : Int) := by omega
                    have i2 : (last : Int) < (l.length : Int) := by omega
                    have i3 : (0 : Int) ≤ (xs.length : Int) - 1 := by omega
                    have i4 : ((xs.length : Int) - 1).toNat = xs.length - 1 := by omega
                    have i5 : (0 : Int) ≤ (t : Int) := by omega
                    have i6 : (t : Int) < (N : Int) := by omega
                    have hlt0 : (xs.length : Int) < x := by omega
                    have hk0l := hst.1
                    clear hk0 hst hG2 hG heg hm hmem htt hss hov hlast hfar hown hrow hrk hbr
                    go_wp2
                    go_loopw [107, 17] (fun i v wr2 => ∃ (q : Nat), q ≤ (outRow l t l.length).length ∧ i = .int .i64 q ∧ v = .slice (some ⟨ob, oo, none⟩) xs.length c ∧ OwnI wr2 w6.heap.size (some ⟨ob, oo, none⟩) c xs ∧ Below w6.heap.size w6 wr2 ∧ Hid (∀ q', q' < q → ∀ i : Nat, (outRow l t l.length)[q']? = some (i : Int) → dst l (eg l i).t (s : Int) ≠ (r : Int))) (fun i v _ => (outRow l t l.length).length - (intOf i).toNat)
                    case atStart => exact ⟨0, Nat.zero_le _, rfl, rfl, HO.out, hbel, Lib.hid fun q' h => absurd h (Nat.not_lt_zero _)⟩
                    case round =>
                      clear HO hbel hob hoc he1 he2 hcr hsz
                      obtain ⟨q, hq, rfl, rfl, hown, hbel, hno⟩ := hrel
                      have hsz := hbel.size
                      have hbr := HB6.out.trans (hbel.mono HB6.out.size)
                      have hcnt := outRow_len l t l.length
                      have hql := row_has ⟨HST.out.1, HST.out.2.1, HST.out.2.2.1⟩ hno.out
                      obtain ⟨pb, po, i, rfl, hpb, hi, hci⟩ := HR2.out.at_ hbr hql
                      obtain ⟨i, rfl, hil, hif⟩ := mem_outRow (List.mem_of_getElem? hi.out)
                      obtain ⟨f2, t2, kk2, _, hg2, hm2, hp1, hp2⟩ := HC.out.at2 hbr hil
                      have hmem := HOK.out _ hm2
                      simp only at hmem
                      obtain ⟨t2, rfl⟩ := Int.eq_ofNat_of_zero_le hmem.2.1
                      have ht2N : t2 < N := by have := hmem.2.2; omega
                      obtain ⟨z, hz⟩ : ∃ z, dst l (t2 : Int) (s : Int) = z := ⟨_, rfl⟩
                      obtain ⟨hcb, hz1, hz2⟩ := HBK2.out t2 ht2N
                      have hcb2 := (hbel.cell (p := ⟨g, t2, none⟩) hgl).trans hcb
                      rw [hz] at hcb2 hz1 hz2
                      have hgt : dst l (eg l i).t (s : Int) = z := by rw [hg2]; exact hz
                      have i7 : (0 : Int) ≤ (q : Int) := by omega
                      have i8 : (q : Int) < ((outRow l t l.length).length : Int) := by omega
                      have i9 : (0 : Int) ≤ (i : Int) := by omega
                      have i10 : (i : Int) < (l.length : Int) := by omega
                      have i11 : (0 : Int) ≤ (t2 : Int) := by omega
                      have i12 : (t2 : Int) < (N : Int) := by omega
                      have ix : IntKind.i64.wrap (x - xs.length) = x - xs.length := IntWalk.i64_in _ (by omega)
                      have iy : IntKind.i64.wrap (x - xs.length - 1) = x - xs.length - 1 := IntWalk.i64_in _ (by omega)
                      by_cases hzr : z = r
                      · have hik : i = k0 := row_first HST.out hno.out hi.out (hgt.trans hzr)
                        have HO := Lib.hid hown
                        have HB := Lib.hid hbel
                        have hcmp : x - xs.length - 1 = (r : Int) := by omega
                        subst hzr
                        subst hik
                        clear hno hgt hz hcb hg2 hm2 hmem hif hi hown hbr hbel
                        go_wp2_with (at_builtin; refine halt_ ?_)
                        refine Halt_.go ?_
                        refine wl_push _ (by rfl) (.tmp 125) (.tmp 127) 31 (by rfl) info3 Try.underlying31 w6.heap.size (some ⟨ob, oo, none⟩) c xs (by rfl) (HO.out.below (Nat.le_refl _) ((Below.refl _ _).alloc (Nat.le_refl _) _)) _ 1 (i : Int) (by rfl) (heap_at _ _ _ rfl) (by omega) (by simp; omega) ?_
                        intro A4 c4 w4 hown4 hkeep
                        have hb4 := hkeep _ _ (Nat.le_refl _) (HB.out.alloc hsz (.cells #[.int .i64 (i : Int)] 3))
                        have HO4 := Lib.hid hown4
                        clear hkeep hown4 HO
                        go_wp2
                        go_roundg r
                        case measure => omega
                        case rel => exact ⟨A4, c4, xs ++ [(i : Int)], r, _, by simp, HG2.out, HO4.out, Nat.le_refl _, hb4⟩
                      · have hno2 : ∀ q', q' < q + 1 → ∀ i : Nat, (outRow l t l.length)[q']? = some (i : Int) → dst l (eg l i).t (s : Int) ≠ (r : Int) := by
                          intro q' hq' i2 hi2
                          rcases Nat.lt_or_ge q' q with h | h
                          · exact hno.out q' h i2 hi2
                          · have : q' = q := by omega
                            subst this
                            have := Option.some.inj (hi2.symm.trans hi.out)
                            have : i2 = i := by omega
                            subst this
                            rw [hgt]
                            exact hzr
                        have HN := Lib.hid hno2
                        have HO := Lib.hid hown
                        have HB := Lib.hid hbel
                        have hne : ¬ z = x - xs.length - 1 := by omega
                        clear hno hno2 hgt hz hcb hg2 hm2 hmem hif hi hown hbr hbel
                        go_wp2
                        go_roundw
                        case rel => exact ⟨q + 1, hql, by go_num, rfl, HO.out, HB.out, HN⟩
                        case measure => simp [intOf]; omega
  · have hR2 : rightB n l = false := by simpa using hR
    go_enter Try.func24, Try.ntmps24
    clear hR
    go_wp2_with (go_at_call 67; refine (right_any _ _ _ l _ (by omega) hc).mono ?_; rintro e w1 ⟨rfl, hb1⟩)
    go_ret3
    exact ⟨none, 0, [], false, 2, rfl, .inl ⟨hR2, rfl, rfl, rfl⟩, OwnI.nil _ _, hb1⟩
end Go.Proofs.Ytjifpjfinffamaa
