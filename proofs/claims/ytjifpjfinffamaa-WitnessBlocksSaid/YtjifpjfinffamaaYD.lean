/- Walk: the document's Order [20]. -/
import Derived.Test.YtjifpjfinffamaaY8
import Derived.Test.YtjifpjfinffamaaY9
import Derived.BigRegion
import Derived.BigQuiet
import Derived.StillTailTactics
import Derived.Handy
import Derived.Deep.Cut
namespace Go.Proofs.Ytjifpjfinffamaa
open Go.RowKit

theorem own_at {w w' : World} {base B : Nat} {A : Option Addr} {c : Nat} {xs : List Nat} (h : OwnI w base A c (lks xs)) (hB : w.heap.size ≤ B) (hb : Below B w w') {i : Nat} (hi : i < xs.length) :
    ∃ g, A = some ⟨g, 0, none⟩ ∧ g < w.heap.size ∧ w'.cell? ⟨g, i, none⟩ = some (.int .i64 ((xs.getD i 0 : Nat) : Int)) := by
  obtain ⟨g, cap, hv, _, hlt⟩ := h.form (by rw [lks_len]; omega)
  have hA : A = some ⟨g, 0, none⟩ := by injection hv
  subst hA
  refine ⟨g, rfl, hlt, ?_⟩
  rw [hb.cell (p := ⟨g, i, none⟩) (show g < B by omega), h.cellAt i (by rw [lks_len]; omega)]
  simp [ints, lks, List.getD, List.getElem?_eq_getElem hi]
theorem ints_one7 {L : List Int} {u : Value} (h : u ∈ ints L) : u.oneCell' = true := by
  obtain ⟨x, _, rfl⟩ := List.mem_map.1 h
  rfl
theorem ints_take_get {L : List Int} {k j : Nat} {u : Value} (h : (ints (L.take k))[j]? = some u) : (ints L)[j]? = some u := by
  unfold ints at *
  rw [List.map_take, List.getElem?_take] at h
  split at h
  · exact h
  · cases h
theorem ints_drop_get {L : List Int} {k j : Nat} {u : Value} (h : (ints (L.drop k))[j]? = some u) : (ints L)[k + j]? = some u := by
  unfold ints at *
  rwa [List.map_drop, List.getElem?_drop] at h
theorem BLk.at_ {w w' : World} {base B : Nat} {A : Option Addr} {c : Nat} {bl : List Bl} {hd : Nat → Value} {Al : Option Addr} {cl : Nat} {lk : List Nat} (h : BLk w base A c bl hd Al cl lk) (hl : lk.length = bl.length) (hB : w.heap.size ≤ B) (hb : Below B w w') {i : Nat} (hi : i < bl.length) :
    ∃ g gl Ar nr cr At nt ct, A = some ⟨g, 0, none⟩ ∧ Al = some ⟨gl, 0, none⟩ ∧ g < w.heap.size ∧ gl < w.heap.size ∧ BlC w' g i (blAt bl i) (.slice Ar nr cr) (.slice At nt ct) ∧ w'.cell? ⟨gl, i, none⟩ = some (.int .i64 ((lk.getD i 0 : Nat) : Int)) := by
  obtain ⟨gl, e1, e2, e3⟩ := own_at h.lk hB hb (i := i) (by omega)
  have hb' := h.hb.below hB hb
  obtain ⟨g, hA, _, hc, _, _⟩ := hb'.reads.at_ (Below.refl _ _) hi
  obtain ⟨Ar, cr, hr⟩ := own_shape (hb'.own (2 * i) (by omega))
  obtain ⟨At, ct, ht⟩ := own_shape (hb'.own (2 * i + 1) (by omega))
  rw [hr, ht] at hc
  refine ⟨g, gl, Ar, _, cr, At, _, ct, hA, e1, ?_, e2, hc, e3⟩
  subst hA
  exact (h.hb.row.lt g rfl).2
theorem own_src {w w' : World} {base B : Nat} {A : Option Addr} {c : Nat} {xs : List Int} (h : OwnI w base A c xs) (hB : w.heap.size ≤ B) (hb : Below B w w') : (A = none → xs.length = 0) ∧ ∀ ad, A = some ad → ad.spot = none ∧ ∀ j u, (ints xs)[j]? = some u → w'.cell? (ad.add j) = some u := by
  rcases Nat.eq_zero_or_pos xs.length with h0 | h0
  · refine ⟨fun _ => h0, fun ad hA => ?_⟩
    have hx : xs = [] := List.eq_nil_of_length_eq_zero h0
    subst hx
    refine ⟨?_, fun j u hu => by simp [ints] at hu⟩
    rcases h.2 with ⟨h2, _⟩ | ⟨g, cap, cur, hv, _⟩
    · injection h2 with h2
      rw [h2] at hA
      cases hA
    · injection hv with hv
      rw [hv] at hA
      injection hA with hA
      rw [← hA]
  · obtain ⟨g, cap, hv, _, hlt⟩ := h.form h0
    have hA : A = some ⟨g, 0, none⟩ := by injection hv
    subst hA
    refine ⟨fun e => (by cases e), fun ad e => ?_⟩
    injection e with e
    subst e
    refine ⟨rfl, fun j u hu => ?_⟩
    have := World.ownsRow.cells h (g := g) rfl j u hu
    rw [Addr.add_lit, Nat.zero_add] at this ⊢
    exact (hb.cell (p := ⟨g, j, none⟩) (show g < B by omega)).trans this

set_option linter.unusedSimpArgs false in
set_option maxRecDepth 100000 in
set_option maxHeartbeats 12800000 in
theorem refOrder_any (A : Option Addr) (cap : Nat) (l : List Ev) (w : World) (hl : l.length ≤ 1099511627776) (hc : EvR w w.heap.size A l) :
    Calls Try.prog 20 #[.slice A l.length cap] w fun e w' => ∃ bl lk Ao co, e = .returned (.slice Ao (lks (ordS bl lk bl.length)).length co) ∧ OwnI w' w.heap.size Ao co (lks (ordS bl lk bl.length)) ∧ docX l l 0 = bl.zip lk ∧ lk.length = bl.length ∧ bl.length ≤ l.length ∧ Below w.heap.size w w' := by
  have HBS := Lib.hid (refBlocks_any A cap l w hl hc)
  clear hc
  go_enter Try.func20, Try.ntmps20
  go_wp2_with (go_at_call 19; refine halt_ ?_)
  refine Halt_.go ?_
  refine HBS.out.mono ?_
  rintro e w1 ⟨bl, lk, Ab, cb, hd, Al, cl, rfl, hbk, hdx, hlen, hle, hb1⟩
  have HBK := Lib.hid hbk
  have HDX := Lib.hid (And.intro hdx (And.intro hlen hle))
  have HB1 := Lib.hid hb1
  obtain ⟨n, hn⟩ : ∃ n, n = bl.length := ⟨_, rfl⟩
  rw [hlen, ← hn]
  rw [← hn] at hle
  have HN := Lib.hid hn
  have hw1 := hb1.size
  clear hbk hdx hlen hb1 hn HBS
  go_wp2
  go_loopw [6, 5] (fun i vo wr => ∃ (q : Nat) (Ao : Option Addr) (co m : Nat), q ≤ n ∧ m ≤ q ∧ Hid (m = (ordS bl lk q).length) ∧ i = .int .i64 q ∧ vo = .slice Ao m co ∧ Hid (OwnI wr w1.heap.size Ao co (lks (ordS bl lk q))) ∧ Hid (Below w1.heap.size w1 wr)) (fun i _ _ => n - (intOf i).toNat)
  case atStart => exact ⟨0, none, 0, 0, Nat.zero_le _, Nat.le_refl _, rfl, rfl, rfl, OwnI.nil _ _, Below.refl _ _⟩
  case round =>
    obtain ⟨q, Ao, co, m, hq, hmq, HM, rfl, rfl, HO, HBL⟩ := hrel
    by_cases hqn : q < n
    · have hqb : q < bl.length := by rw [← HN.out]; exact hqn
      have hszr := HBL.out.size
      obtain ⟨g, gl, Ar, nr, cr, At, nt, ct, hA, hAl, hgw, hglw, hcq, hlq⟩ := HBK.out.at_ HDX.out.2.1 (Nat.le_refl _) HBL.out hqb
      subst hA hAl
      obtain ⟨c0, c1, c2, c3, c4, c5, c6, c7, c8⟩ := hcq
      have HBQ := Lib.hid (show BlC wr g q (blAt bl q) (.slice Ar nr cr) (.slice At nt ct) from ⟨c0, c1, c2, c3, c4, c5, c6, c7, c8⟩)
      have HLQ := Lib.hid hlq
      have hov := over15_any (blAt bl q) (.slice Ar nr cr) (.slice At nt ct) wr
      obtain ⟨b, hbq⟩ : ∃ b, b = blAt bl q := ⟨_, rfl⟩
      rw [← hbq] at c0 c1 c2 c3 c4 c5 c6 hov
      have HBB := Lib.hid hbq
      have HOV := Lib.hid hov
      have i1 : (0 : Int) ≤ (q : Int) := by omega
      have i2 : (q : Int) < (n : Int) := by omega
      clear hbq hov hqb hlq
      go_wp2_with (go_at_call 64; refine halt_ ?_)
      refine Halt_.go ?_
      refine HOV.out.mono ?_
      rintro e' w2 ⟨rfl, hb2⟩
      have HB2 := Lib.hid (HBL.out.trans (hb2.mono hszr))
      have hsz2 := hb2.size
      have HB12 := Lib.hid hb2
      clear c0 c1 c2 c3 c4 c5 c6 c7 c8 hb2 HOV
      by_cases hob : OverB b = true
      · rw [hob]
        have HOB := Lib.hid hob
        clear hob
        go_wp2
        go_loopw [8] (fun kv wr2 => ∃ k : Nat, k ≤ m ∧ kv = .int .i64 k ∧ Hid (∀ j (h : j < (ordS bl lk q).length), j < k → befL bl lk q (ordS bl lk q)[j] = false) ∧ Hid (Below w2.heap.size w2 wr2)) (fun kv _ => m - (intOf kv).toNat)
        case atStart => exact ⟨0, Nat.zero_le _, rfl, fun j h hj => absurd hj (Nat.not_lt_zero _), Below.refl _ _⟩
        case round =>
          obtain ⟨k, hk, rfl, HPRE, HBK2⟩ := hrel
          have HBW := Lib.hid (HB2.out.trans (HBK2.out.mono (by omega)))
          have hsz3 := HBK2.out.size
          have hO2 := HO.out.below (Nat.le_refl _) HB12.out
          have hmco : m ≤ co := by
            have := (own_cap hO2).1
            rw [lks_len, ← HM.out] at this
            exact this
          by_cases hkm : k < m
          · have hkl : k < (ordS bl lk q).length := by rw [← HM.out]; exact hkm
            have hoq : (ordS bl lk q)[k] < q := ordS_lt (List.getElem_mem hkl)
            obtain ⟨go, hgo, hgow, hoc⟩ := own_at hO2 (Nat.le_refl _) HBK2.out hkl
            have hge : (ordS bl lk q).getD k 0 = (ordS bl lk q)[k] := by simp [List.getD, List.getElem?_eq_getElem hkl]
            rw [hge] at hoc
            obtain ⟨o, ho⟩ : ∃ o, o = (ordS bl lk q)[k] := ⟨_, rfl⟩
            rw [← ho] at hoc hoq hge
            obtain ⟨g', gl', Ar', nr', cr', At', nt', ct', hA', hAl', _, _, hco, hlo⟩ := HBK.out.at_ HDX.out.2.1 (Nat.le_refl _) HBW.out (show o < bl.length by rw [← HN.out]; omega)
            injection hA' with hA'
            injection hA' with hA'
            injection hAl' with hAl'
            injection hAl' with hAl'
            subst hA' hAl' hgo
            obtain ⟨g'', gl'', Ar'', nr'', cr'', At'', nt'', ct'', hA', hAl', _, _, hcq, hlq⟩ := HBK.out.at_ HDX.out.2.1 (Nat.le_refl _) HBW.out (show q < bl.length by rw [← HN.out]; exact hqn)
            injection hA' with hA'
            injection hA' with hA'
            injection hAl' with hAl'
            injection hAl' with hAl'
            subst hA' hAl'
            have hbe : BefB b ((lk.getD q 0 : Nat) : Int) (blAt bl o) ((lk.getD o 0 : Nat) : Int) = befL bl lk q o := by unfold befL; rw [HBB.out]
            have hbf := fun W => before_any b (blAt bl o) ((lk.getD q 0 : Nat) : Int) ((lk.getD o 0 : Nat) : Int) (.slice Ar'' nr'' cr'') (.slice At'' nt'' ct'') (.slice Ar' nr' cr') (.slice At' nt' ct') W
            rw [hbe] at hbf
            rw [← HBB.out] at hcq
            obtain ⟨bo, hbo⟩ : ∃ bo, bo = blAt bl o := ⟨_, rfl⟩
            rw [← hbo] at hco hbf
            obtain ⟨x, hx⟩ : ∃ x, x = ((lk.getD q 0 : Nat) : Int) := ⟨_, rfl⟩
            obtain ⟨y, hy⟩ : ∃ y, y = ((lk.getD o 0 : Nat) : Int) := ⟨_, rfl⟩
            rw [← hx] at hlq hbf
            rw [← hy] at hlo hbf
            obtain ⟨c0, c1, c2, c3, c4, c5, c6, c7, c8⟩ := hcq
            obtain ⟨d0, d1, d2, d3, d4, d5, d6, d7, d8⟩ := hco
            have HBF := Lib.hid hbf
            have i3 : (0 : Int) ≤ (k : Int) := by omega
            have i4 : (k : Int) < (m : Int) := by omega
            have i7 : (k : Int) ≤ (co : Int) := by omega
            have i8 : (k : Int) ≤ (m : Int) := by omega
            have i9 : ¬ co = k := by omega
            have i5 : (0 : Int) ≤ (o : Int) := by omega
            have i6 : (o : Int) < (n : Int) := by omega
            have e1 : decide ((k : Int) < (m : Int)) = true := by simpa using hkm
            have HGE := Lib.hid hge
            have HO2 := Lib.hid hO2
            clear hbf hbe hx hy hbo ho hge hO2 hkl hkm
            go_wp2
            go_still_tail 27, (by kernel_rfl)
            change wpList _ _ _ _ _ wr.drew
            go_wp2_with (go_at_call 65; refine halt_ ?_)
            refine Halt_.go ?_
            refine (HBF.out _).mono ?_
            rintro e' w4 ⟨rfl, hb4⟩
            have hb5 : Below w2.heap.size w2 w4 := HBK2.out.trans ((show Below wr.heap.size wr w4 from ((Below.refl _ _).grown (grown_drew wr none) (Nat.le_refl _) (fun k hk => by cases hk)).trans hb4).mono hsz3)
            have HBT := Lib.hid hb5
            have hszT := hb5.size
            clear hb4 hb5 HBF HBW c0 c1 c2 c3 c4 c5 c6 c7 c8 d0 d1 d2 d3 d4 d5 d6 d7 d8 hlq hlo hoc HBK2 e1
            by_cases hv : befL bl lk q o = true
            · rw [hv]
              have HST : Hid (∀ h : k < (ordS bl lk q).length, befL bl lk q (ordS bl lk q)[k] = true) := by
                intro h
                have h1 := HGE.out
                simp only [List.getD, List.getElem?_eq_getElem h, Option.getD_some] at h1
                rw [h1]
                exact hv
              clear hv

              have hHM := HM.out
              have hL : (lks (ordS bl lk q)).length = m := by rw [lks_len]; exact hHM.symm
              have hsrc := own_src (w' := w4) HO2.out (Nat.le_refl _) HBT.out
              have hins := insB_take bl lk q (ordS bl lk q) k (by omega) HPRE.out HST.out
              have hos : lks (ordS bl lk (q + 1)) = (lks (ordS bl lk q)).take k ++ (q : Int) :: (lks (ordS bl lk q)).drop k := by
                rw [ordS, ← HBB.out, if_pos HOB.out, hins]
                simp [lks, List.map_take, List.map_drop]
              have HB4 := Lib.hid (HB2.out.trans (HBT.out.mono (show w1.heap.size ≤ w2.heap.size by omega)))
              obtain ⟨L, hLL⟩ : ∃ L, L = lks (ordS bl lk q) := ⟨_, rfl⟩
              have HLL := Lib.hid hLL
              rw [← hLL] at hL hsrc hos
              have HSRC := Lib.hid hsrc
              have HOS := Lib.hid hos
              have HL := Lib.hid hL
              clear hHM hL hsrc hins hos HST HPRE HO hLL
              go_wp2_with (at_builtin; refine halt_ ?_)
              refine Halt_.go ?_
              refine wl_append_src _ (by rfl) (.tmp 60) (.tmp 63) 31 (by rfl) w4.heap.size 3 _ 1 8 info3 Try.underlying31 rfl (by decide) (.slice none 0 0) 0 [] (by rfl) (World.ownsRow_nil w4 w4.heap.size 3 1) (some ⟨go, 0, none⟩) k co (ints (L.take k)) (by rfl) (by simp [ints, HL.out]; omega) (fun e => by cases e) (fun ad hA j u hu => ((HSRC.out.2 ad hA).2 j u (ints_take_get hu))) (fun u hu => ints_one7 hu) (by omega) (by omega) (Nat.le_refl _) ?_
              intro A5 c5 w5 hown5 hgr5 hnil5
              simp only [Nat.zero_add, List.nil_append] at hown5
              have hb5 : Below w4.heap.size w4 w5 := (Below.refl _ _).grown hgr5 (Nat.le_refl _) (fun k hk => by cases hk)
              have HOW5 := Lib.hid hown5
              have HB5 := Lib.hid hb5
              have hsz5 := hb5.size
              clear hown5 hgr5 hnil5 hb5 HSRC
              go_wp2_with (at_builtin; refine halt_ ?_)
              refine Halt_.go ?_
              refine wl_append1 _ (by rfl) (.tmp 65) (.tmp 67) 31 (by rfl) w4.heap.size 3 _ 1 8 info3 Try.underlying31 rfl (by decide) (.slice A5 k c5) k (ints (L.take k)) (by rfl) (HOW5.out.alloc _) w5.heap.size 1 [.int .i64 (q : Int)] (by rfl) (heap_at _ _ _ rfl) rfl (by simp [Value.oneCell']) (by omega) (by omega) (by simp; omega) _ rfl ?_
              intro g6 c6 w6 hown6 hgr6 hat6 hlt6
              have hb6 := (HB5.out.alloc hsz5 (.cells #[.int .i64 (q : Int)] 3)).grown hgr6 (by simp; omega) (fun k hk => (HOW5.out.lt k hk).1)
              have HOW6 := Lib.hid hown6
              have HB6 := Lib.hid hb6
              have hsz6 := hb6.size
              clear hown6 hgr6 hat6 hlt6 hb6 HOW5 HB5 hsz5
              go_wp2_with (at_builtin; refine halt_ ?_)
              refine Halt_.go ?_
              refine wl_append_src _ (by rfl) (.tmp 69) (.tmp 72) 31 (by rfl) w4.heap.size 3 _ 1 8 info3 Try.underlying31 rfl (by decide) (.slice (some ⟨g6, 0, none⟩) (k + 1) c6) (k + 1) (ints (L.take k) ++ [.int .i64 (q : Int)]) (by rfl) HOW6.out (some ⟨go, k, none⟩) (m - k) (co - k) (ints (L.drop k)) (by rfl) (by simp [ints, HL.out]) (fun e => by cases e) (fun ad hA j u hu => by
                  injection hA with hA
                  subst hA
                  have h1 := (own_src (w' := w6) HO2.out (Nat.le_refl _) (HBT.out.trans (HB6.out.mono (by omega)))).2 _ rfl
                  have h2 := h1.2 (k + j) u (by rw [← HLL.out]; exact ints_drop_get hu)
                  rw [Addr.add_lit] at h2 ⊢
                  rwa [Nat.zero_add] at h2) (fun u hu => ints_one7 hu) (by omega) (by omega) hsz6 ?_
              intro A7 c7 w7 hown7 hgr7 hnil7
              have hb7 := HB6.out.grown hgr7 hsz6 (fun k hk => (HOW6.out.lt k hk).1)
              have ho7 : OwnI w7 w1.heap.size A7 c7 (lks (ordS bl lk (q + 1))) := by
                have h1 : (lks (ordS bl lk (q + 1))).length = k + 1 + (m - k) := by rw [HOS.out]; simp [HL.out]; omega
                unfold OwnI
                rw [h1, HOS.out]
                have h2 : ints (L.take k ++ (q : Int) :: L.drop k) = ints (L.take k) ++ [.int .i64 (q : Int)] ++ ints (L.drop k) := by simp [ints]
                rw [h2]
                exact own_base hown7 (by have := HB4.out.size; omega)
              have HO7 := Lib.hid ho7
              have HM7 : Hid (k + 1 + (m - k) = (ordS bl lk (q + 1)).length) := by
                have h1 := congrArg List.length HOS.out
                rw [lks_len] at h1
                show _ = _
                rw [h1]
                simp [HL.out]
                omega
              have HB7 := Lib.hid (HB4.out.trans (hb7.mono (by have := HB4.out.size; omega)))
              clear hown7 hgr7 hnil7 hb7 ho7 HOW6 HB6 HB4 HOS HL HLL HO2 HBT HM
              go_wp2
              go_roundw
              case rel => exact ⟨q + 1, A7, c7, k + 1 + (m - k), hqn, by omega, HM7, by go_num, rfl, HO7, HB7⟩
              case measure => simp [intOf]; omega
            · have hv' : befL bl lk q o = false := by simpa using hv
              rw [hv']
              have HPRE2 : Hid (∀ j (h : j < (ordS bl lk q).length), j < k + 1 → befL bl lk q (ordS bl lk q)[j] = false) := by
                intro j h hj
                by_cases e : j = k
                · subst e
                  have h1 := HGE.out
                  simp only [List.getD, List.getElem?_eq_getElem h, Option.getD_some] at h1
                  rw [h1]
                  exact hv'
                · exact HPRE.out j h (by omega)
              clear hv hv' HPRE
              go_wp2
              go_roundw
              case rel => exact ⟨k + 1, by omega, by go_num, HPRE2, HBT⟩
              case measure => simp [intOf]; omega
          · obtain rfl : k = m := by omega
            have hA2 : Ao = none ∧ k = 0 ∧ co = 0 ∨ ∃ go, Ao = some ⟨go, 0, none⟩ := by
              rcases (show _ ∨ _ from hO2.2) with ⟨h2, _⟩ | ⟨g, cap, cur, hv, _⟩
              · injection h2 with h1 h2 h3
                rw [lks_len, ← HM.out] at h2
                exact .inl ⟨h1, h2, h3⟩
              · injection hv with hv
                exact .inr ⟨g, hv⟩
            have e1 : decide ((k : Int) < (k : Int)) = false := by simp
            have HO2 := Lib.hid hO2
            have hb5 : ∀ nq, Below w2.heap.size w2 (wr.drewN nq) := fun nq => bdrewN HBK2.out nq
            have HBN := Lib.hid hb5
            have HST : Hid (∀ h : k < (ordS bl lk q).length, befL bl lk q (ordS bl lk q)[k] = true) := by
              intro h
              rw [← HM.out] at h
              omega
            clear hb5 hO2 HBW HBK2 hkm
            rcases hA2 with ⟨rfl, rfl, rfl⟩ | ⟨go, rfl⟩
            case inl =>
              go_wp2
              go_quiet (fail)
              have HBT := Lib.hid (HBN.out nq)
              have hszT := HBT.out.size
              clear HBN
              generalize wr.drewN nq = w4 at *

              have hHM := HM.out
              have hL : (lks (ordS bl lk q)).length = 0 := by rw [lks_len]; exact hHM.symm
              have hsrc := own_src (w' := w4) HO2.out (Nat.le_refl _) HBT.out
              have hins := insB_take bl lk q (ordS bl lk q) 0 (by omega) HPRE.out HST.out
              have hos : lks (ordS bl lk (q + 1)) = (lks (ordS bl lk q)).take 0 ++ (q : Int) :: (lks (ordS bl lk q)).drop 0 := by
                rw [ordS, ← HBB.out, if_pos HOB.out, hins]
                simp [lks, List.map_take, List.map_drop]
              have HB4 := Lib.hid (HB2.out.trans (HBT.out.mono (show w1.heap.size ≤ w2.heap.size by omega)))
              obtain ⟨L, hLL⟩ : ∃ L, L = lks (ordS bl lk q) := ⟨_, rfl⟩
              have HLL := Lib.hid hLL
              rw [← hLL] at hL hsrc hos
              have HSRC := Lib.hid hsrc
              have HOS := Lib.hid hos
              have HL := Lib.hid hL
              clear hHM hL hsrc hins hos HST HPRE HO hLL
              go_wp2_with (at_builtin; refine halt_ ?_)
              refine Halt_.go ?_
              refine wl_append_src _ (by rfl) (.tmp 60) (.tmp 63) 31 (by rfl) w4.heap.size 3 _ 1 8 info3 Try.underlying31 rfl (by decide) (.slice none 0 0) 0 [] (by rfl) (World.ownsRow_nil w4 w4.heap.size 3 1) none 0 0 (ints (L.take 0)) (by rfl) (by simp [ints, HL.out]) (fun _ => rfl) (fun ad hA j u hu => ((HSRC.out.2 ad hA).2 j u (ints_take_get hu))) (fun u hu => ints_one7 hu) (by omega) (by omega) (Nat.le_refl _) ?_
              intro A5 c5 w5 hown5 hgr5 hnil5
              simp only [Nat.zero_add, List.nil_append] at hown5
              have hb5 : Below w4.heap.size w4 w5 := (Below.refl _ _).grown hgr5 (Nat.le_refl _) (fun k hk => by cases hk)
              have HOW5 := Lib.hid hown5
              have HB5 := Lib.hid hb5
              have hsz5 := hb5.size
              clear hown5 hgr5 hnil5 hb5 HSRC
              go_wp2_with (at_builtin; refine halt_ ?_)
              refine Halt_.go ?_
              refine wl_append1 _ (by rfl) (.tmp 65) (.tmp 67) 31 (by rfl) w4.heap.size 3 _ 1 8 info3 Try.underlying31 rfl (by decide) (.slice A5 0 c5) 0 (ints (L.take 0)) (by rfl) (HOW5.out.alloc _) w5.heap.size 1 [.int .i64 (q : Int)] (by rfl) (heap_at _ _ _ rfl) rfl (by simp [Value.oneCell']) (by omega) (by omega) (by simp; omega) _ rfl ?_
              intro g6 c6 w6 hown6 hgr6 hat6 hlt6
              have hb6 := (HB5.out.alloc hsz5 (.cells #[.int .i64 (q : Int)] 3)).grown hgr6 (by simp; omega) (fun k hk => (HOW5.out.lt k hk).1)
              have HOW6 := Lib.hid hown6
              have HB6 := Lib.hid hb6
              have hsz6 := hb6.size
              clear hown6 hgr6 hat6 hlt6 hb6 HOW5 HB5 hsz5
              go_wp2_with (at_builtin; refine halt_ ?_)
              refine Halt_.go ?_
              refine wl_append_src _ (by rfl) (.tmp 69) (.tmp 72) 31 (by rfl) w4.heap.size 3 _ 1 8 info3 Try.underlying31 rfl (by decide) (.slice (some ⟨g6, 0, none⟩) (0 + 1) c6) (0 + 1) (ints (L.take 0) ++ [.int .i64 (q : Int)]) (by rfl) HOW6.out none 0 0 (ints (L.drop 0)) (by rfl) (by simp [ints, HL.out]) (fun _ => rfl) (fun ad hA j u hu => by
                  exfalso
                  rw [List.getElem?_eq_none (by simp [ints, HL.out])] at hu
                  cases hu) (fun u hu => ints_one7 hu) (by omega) (by omega) hsz6 ?_
              intro A7 c7 w7 hown7 hgr7 hnil7
              have hb7 := HB6.out.grown hgr7 hsz6 (fun k hk => (HOW6.out.lt k hk).1)
              have ho7 : OwnI w7 w1.heap.size A7 c7 (lks (ordS bl lk (q + 1))) := by
                have h1 : (lks (ordS bl lk (q + 1))).length = 0 + 1 + (0) := by rw [HOS.out]; simp [HL.out]
                unfold OwnI
                rw [h1, HOS.out]
                have h2 : ints (L.take 0 ++ (q : Int) :: L.drop 0) = ints (L.take 0) ++ [.int .i64 (q : Int)] ++ ints (L.drop 0) := by simp [ints]
                rw [h2]
                exact own_base hown7 (by have := HB4.out.size; omega)
              have HO7 := Lib.hid ho7
              have HM7 : Hid (0 + 1 + (0) = (ordS bl lk (q + 1)).length) := by
                have h1 := congrArg List.length HOS.out
                rw [lks_len] at h1
                show _ = _
                rw [h1]
                simp [HL.out]
              have HB7 := Lib.hid (HB4.out.trans (hb7.mono (by have := HB4.out.size; omega)))
              clear hown7 hgr7 hnil7 hb7 ho7 HOW6 HB6 HB4 HOS HL HLL HO2 HBT HM
              go_wp2
              go_roundw
              case rel => exact ⟨q + 1, A7, c7, 0 + 1 + (0), hqn, by omega, HM7, by go_num, rfl, HO7, HB7⟩
              case measure => simp [intOf]; omega
            case inr =>
              by_cases hck : co = k
              · subst hck
                go_wp2
                go_quiet (fail)
                have HBT := Lib.hid (HBN.out nq)
                have hszT := HBT.out.size
                clear HBN
                generalize wr.drewN nq = w4 at *

                have hHM := HM.out
                have hL : (lks (ordS bl lk q)).length = co := by rw [lks_len]; exact hHM.symm
                have hsrc := own_src (w' := w4) HO2.out (Nat.le_refl _) HBT.out
                have hins := insB_take bl lk q (ordS bl lk q) co (by omega) HPRE.out HST.out
                have hos : lks (ordS bl lk (q + 1)) = (lks (ordS bl lk q)).take co ++ (q : Int) :: (lks (ordS bl lk q)).drop co := by
                  rw [ordS, ← HBB.out, if_pos HOB.out, hins]
                  simp [lks, List.map_take, List.map_drop]
                have HB4 := Lib.hid (HB2.out.trans (HBT.out.mono (show w1.heap.size ≤ w2.heap.size by omega)))
                obtain ⟨L, hLL⟩ : ∃ L, L = lks (ordS bl lk q) := ⟨_, rfl⟩
                have HLL := Lib.hid hLL
                rw [← hLL] at hL hsrc hos
                have HSRC := Lib.hid hsrc
                have HOS := Lib.hid hos
                have HL := Lib.hid hL
                clear hHM hL hsrc hins hos HST HPRE HO hLL
                go_wp2_with (at_builtin; refine halt_ ?_)
                refine Halt_.go ?_
                refine wl_append_src _ (by rfl) (.tmp 60) (.tmp 63) 31 (by rfl) w4.heap.size 3 _ 1 8 info3 Try.underlying31 rfl (by decide) (.slice none 0 0) 0 [] (by rfl) (World.ownsRow_nil w4 w4.heap.size 3 1) (some ⟨go, 0, none⟩) co co (ints (L.take co)) (by rfl) (by simp [ints, HL.out]) (fun e => by cases e) (fun ad hA j u hu => ((HSRC.out.2 ad hA).2 j u (ints_take_get hu))) (fun u hu => ints_one7 hu) (by omega) (by omega) (Nat.le_refl _) ?_
                intro A5 c5 w5 hown5 hgr5 hnil5
                simp only [Nat.zero_add, List.nil_append] at hown5
                have hb5 : Below w4.heap.size w4 w5 := (Below.refl _ _).grown hgr5 (Nat.le_refl _) (fun k hk => by cases hk)
                have HOW5 := Lib.hid hown5
                have HB5 := Lib.hid hb5
                have hsz5 := hb5.size
                clear hown5 hgr5 hnil5 hb5 HSRC
                go_wp2_with (at_builtin; refine halt_ ?_)
                refine Halt_.go ?_
                refine wl_append1 _ (by rfl) (.tmp 65) (.tmp 67) 31 (by rfl) w4.heap.size 3 _ 1 8 info3 Try.underlying31 rfl (by decide) (.slice A5 co c5) co (ints (L.take co)) (by rfl) (HOW5.out.alloc _) w5.heap.size 1 [.int .i64 (q : Int)] (by rfl) (heap_at _ _ _ rfl) rfl (by simp [Value.oneCell']) (by omega) (by omega) (by simp; omega) _ rfl ?_
                intro g6 c6 w6 hown6 hgr6 hat6 hlt6
                have hb6 := (HB5.out.alloc hsz5 (.cells #[.int .i64 (q : Int)] 3)).grown hgr6 (by simp; omega) (fun k hk => (HOW5.out.lt k hk).1)
                have HOW6 := Lib.hid hown6
                have HB6 := Lib.hid hb6
                have hsz6 := hb6.size
                clear hown6 hgr6 hat6 hlt6 hb6 HOW5 HB5 hsz5
                go_wp2_with (at_builtin; refine halt_ ?_)
                refine Halt_.go ?_
                refine wl_append_src _ (by rfl) (.tmp 69) (.tmp 72) 31 (by rfl) w4.heap.size 3 _ 1 8 info3 Try.underlying31 rfl (by decide) (.slice (some ⟨g6, 0, none⟩) (co + 1) c6) (co + 1) (ints (L.take co) ++ [.int .i64 (q : Int)]) (by rfl) HOW6.out (some ⟨go, 0, none⟩) 0 0 (ints (L.drop co)) (by rfl) (by simp [ints, HL.out]) (fun e => by cases e) (fun ad hA j u hu => by
                    exfalso
                    rw [List.getElem?_eq_none (by simp [ints, HL.out])] at hu
                    cases hu) (fun u hu => ints_one7 hu) (by omega) (by omega) hsz6 ?_
                intro A7 c7 w7 hown7 hgr7 hnil7
                have hb7 := HB6.out.grown hgr7 hsz6 (fun k hk => (HOW6.out.lt k hk).1)
                have ho7 : OwnI w7 w1.heap.size A7 c7 (lks (ordS bl lk (q + 1))) := by
                  have h1 : (lks (ordS bl lk (q + 1))).length = co + 1 + (0) := by rw [HOS.out]; simp [HL.out]
                  unfold OwnI
                  rw [h1, HOS.out]
                  have h2 : ints (L.take co ++ (q : Int) :: L.drop co) = ints (L.take co) ++ [.int .i64 (q : Int)] ++ ints (L.drop co) := by simp [ints]
                  rw [h2]
                  exact own_base hown7 (by have := HB4.out.size; omega)
                have HO7 := Lib.hid ho7
                have HM7 : Hid (co + 1 + (0) = (ordS bl lk (q + 1)).length) := by
                  have h1 := congrArg List.length HOS.out
                  rw [lks_len] at h1
                  show _ = _
                  rw [h1]
                  simp [HL.out]
                have HB7 := Lib.hid (HB4.out.trans (hb7.mono (by have := HB4.out.size; omega)))
                clear hown7 hgr7 hnil7 hb7 ho7 HOW6 HB6 HB4 HOS HL HLL HO2 HBT HM
                go_wp2
                go_roundw
                case rel => exact ⟨q + 1, A7, c7, co + 1 + (0), hqn, by omega, HM7, by go_num, rfl, HO7, HB7⟩
                case measure => simp [intOf]; omega
              · have hkc : (k : Int) ≤ (co : Int) := by omega
                go_wp2
                go_quiet (fail)
                have HBT := Lib.hid (HBN.out nq)
                have hszT := HBT.out.size
                clear HBN
                generalize wr.drewN nq = w4 at *

                have hHM := HM.out
                have hL : (lks (ordS bl lk q)).length = k := by rw [lks_len]; exact hHM.symm
                have hsrc := own_src (w' := w4) HO2.out (Nat.le_refl _) HBT.out
                have hins := insB_take bl lk q (ordS bl lk q) k (by omega) HPRE.out HST.out
                have hos : lks (ordS bl lk (q + 1)) = (lks (ordS bl lk q)).take k ++ (q : Int) :: (lks (ordS bl lk q)).drop k := by
                  rw [ordS, ← HBB.out, if_pos HOB.out, hins]
                  simp [lks, List.map_take, List.map_drop]
                have HB4 := Lib.hid (HB2.out.trans (HBT.out.mono (show w1.heap.size ≤ w2.heap.size by omega)))
                obtain ⟨L, hLL⟩ : ∃ L, L = lks (ordS bl lk q) := ⟨_, rfl⟩
                have HLL := Lib.hid hLL
                rw [← hLL] at hL hsrc hos
                have HSRC := Lib.hid hsrc
                have HOS := Lib.hid hos
                have HL := Lib.hid hL
                clear hHM hL hsrc hins hos HST HPRE HO hLL
                go_wp2_with (at_builtin; refine halt_ ?_)
                refine Halt_.go ?_
                refine wl_append_src _ (by rfl) (.tmp 60) (.tmp 63) 31 (by rfl) w4.heap.size 3 _ 1 8 info3 Try.underlying31 rfl (by decide) (.slice none 0 0) 0 [] (by rfl) (World.ownsRow_nil w4 w4.heap.size 3 1) (some ⟨go, 0, none⟩) k co (ints (L.take k)) (by rfl) (by simp [ints, HL.out]) (fun e => by cases e) (fun ad hA j u hu => ((HSRC.out.2 ad hA).2 j u (ints_take_get hu))) (fun u hu => ints_one7 hu) (by omega) (by omega) (Nat.le_refl _) ?_
                intro A5 c5 w5 hown5 hgr5 hnil5
                simp only [Nat.zero_add, List.nil_append] at hown5
                have hb5 : Below w4.heap.size w4 w5 := (Below.refl _ _).grown hgr5 (Nat.le_refl _) (fun k hk => by cases hk)
                have HOW5 := Lib.hid hown5
                have HB5 := Lib.hid hb5
                have hsz5 := hb5.size
                clear hown5 hgr5 hnil5 hb5 HSRC
                go_wp2_with (at_builtin; refine halt_ ?_)
                refine Halt_.go ?_
                refine wl_append1 _ (by rfl) (.tmp 65) (.tmp 67) 31 (by rfl) w4.heap.size 3 _ 1 8 info3 Try.underlying31 rfl (by decide) (.slice A5 k c5) k (ints (L.take k)) (by rfl) (HOW5.out.alloc _) w5.heap.size 1 [.int .i64 (q : Int)] (by rfl) (heap_at _ _ _ rfl) rfl (by simp [Value.oneCell']) (by omega) (by omega) (by simp; omega) _ rfl ?_
                intro g6 c6 w6 hown6 hgr6 hat6 hlt6
                have hb6 := (HB5.out.alloc hsz5 (.cells #[.int .i64 (q : Int)] 3)).grown hgr6 (by simp; omega) (fun k hk => (HOW5.out.lt k hk).1)
                have HOW6 := Lib.hid hown6
                have HB6 := Lib.hid hb6
                have hsz6 := hb6.size
                clear hown6 hgr6 hat6 hlt6 hb6 HOW5 HB5 hsz5
                go_wp2_with (at_builtin; refine halt_ ?_)
                refine Halt_.go ?_
                refine wl_append_src _ (by rfl) (.tmp 69) (.tmp 72) 31 (by rfl) w4.heap.size 3 _ 1 8 info3 Try.underlying31 rfl (by decide) (.slice (some ⟨g6, 0, none⟩) (k + 1) c6) (k + 1) (ints (L.take k) ++ [.int .i64 (q : Int)]) (by rfl) HOW6.out (some ⟨go, k, none⟩) 0 (co - k) (ints (L.drop k)) (by rfl) (by simp [ints, HL.out]) (fun e => by cases e) (fun ad hA j u hu => by
                    exfalso
                    rw [List.getElem?_eq_none (by simp [ints, HL.out])] at hu
                    cases hu) (fun u hu => ints_one7 hu) (by omega) (by omega) hsz6 ?_
                intro A7 c7 w7 hown7 hgr7 hnil7
                have hb7 := HB6.out.grown hgr7 hsz6 (fun k hk => (HOW6.out.lt k hk).1)
                have ho7 : OwnI w7 w1.heap.size A7 c7 (lks (ordS bl lk (q + 1))) := by
                  have h1 : (lks (ordS bl lk (q + 1))).length = k + 1 + (0) := by rw [HOS.out]; simp [HL.out]
                  unfold OwnI
                  rw [h1, HOS.out]
                  have h2 : ints (L.take k ++ (q : Int) :: L.drop k) = ints (L.take k) ++ [.int .i64 (q : Int)] ++ ints (L.drop k) := by simp [ints]
                  rw [h2]
                  exact own_base hown7 (by have := HB4.out.size; omega)
                have HO7 := Lib.hid ho7
                have HM7 : Hid (k + 1 + (0) = (ordS bl lk (q + 1)).length) := by
                  have h1 := congrArg List.length HOS.out
                  rw [lks_len] at h1
                  show _ = _
                  rw [h1]
                  simp [HL.out]
                have HB7 := Lib.hid (HB4.out.trans (hb7.mono (by have := HB4.out.size; omega)))
                clear hown7 hgr7 hnil7 hb7 ho7 HOW6 HB6 HB4 HOS HL HLL HO2 HBT HM
                go_wp2
                go_roundw
                case rel => exact ⟨q + 1, A7, c7, k + 1 + (0), hqn, by omega, HM7, by go_num, rfl, HO7, HB7⟩
                case measure => simp [intOf]; omega
      · have hob' : OverB b = false := by simpa using hob
        rw [hob']
        have hos : ordS bl lk (q + 1) = ordS bl lk q := by
          rw [ordS, ← HBB.out, if_neg hob]
        have HM2 : Hid (m = (ordS bl lk (q + 1)).length) := by
          rw [hos]
          exact HM
        have HO2 := Lib.hid (show OwnI w2 w1.heap.size Ao co (lks (ordS bl lk (q + 1))) by rw [hos]; exact HO.out.below (Nat.le_refl _) HB12.out)
        clear hos hob hob' HM HO
        go_wp2
        go_roundw
        case rel => exact ⟨q + 1, Ao, co, m, hqn, by omega, HM2, by go_num, rfl, HO2, HB2⟩
        case measure => simp [intOf]; omega
    · obtain rfl : q = n := by omega
      have ho := HO.out
      have hm := HM.out
      go_wp2
      go_ret
      rw [HN.out] at ho
      refine ⟨bl, lk, Ao, co, ?_, ho.base hw1, HDX.out.1, HDX.out.2.1, HDX.out.2.2, HB1.out.trans (HBL.out.mono hw1)⟩
      rw [lks_len, ← HN.out, ← hm]
      rfl
end Go.Proofs.Ytjifpjfinffamaa
