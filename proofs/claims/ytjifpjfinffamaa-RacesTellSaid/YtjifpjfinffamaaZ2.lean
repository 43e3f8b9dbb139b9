/- Texts V5, laid together. -/
import Derived.Test.YtjifpjfinffamaaZ1
import Derived.Deep.RegionWith
import Derived.Deep.RegionHeld
import Derived.Deep.RegionLaw
section
namespace Go.Proofs.Ytjifpjfinffamaa
open Go.RowKit
structure BoxE (w : World) (g : Nat) (e : Ev) : Prop where
  lt : g < w.heap.size
  c0 : w.cell? ⟨g, 0, none⟩ = some (.int .i64 e.th)
  c1 : w.cell? ⟨g, 1, none⟩ = some (.int .i64 e.kind)
  c2 : w.cell? ⟨g, 2, none⟩ = some (.int .u64 e.addr)
  c3 : w.cell? ⟨g, 3, none⟩ = some (.int .u64 e.word)
  c4 : w.cell? ⟨g, 4, none⟩ = some (.bool e.own)
  c5 : w.cell? ⟨g, 5, none⟩ = some (.int .i64 e.err)
theorem BoxE.made (w : World) (e : Ev) : BoxE (w.alloc (.cells #[.int .i64 e.th, .int .i64 e.kind, .int .u64 e.addr, .int .u64 e.word, .bool e.own, .int .i64 e.err] 97)) w.heap.size e := by
  refine ⟨by simp, ?_, ?_, ?_, ?_, ?_, ?_⟩ <;> (rw [World.cell?_alloc_new]; rfl)
theorem BoxE.keep {w w' : World} {g : Nat} {e : Ev} (h : BoxE w g e) (hs : w.heap.size ≤ w'.heap.size) (hk : ∀ p : Addr, p.block = g → w'.cell? p = w.cell? p) : BoxE w' g e :=
  ⟨Nat.lt_of_lt_of_le h.lt hs, (hk _ rfl).trans h.c0, (hk _ rfl).trans h.c1, (hk _ rfl).trans h.c2, (hk _ rfl).trans h.c3, (hk _ rfl).trans h.c4, (hk _ rfl).trans h.c5⟩
theorem BoxE.below {w w' : World} {g : Nat} {e : Ev} (h : BoxE w g e) (hb : Below w.heap.size w w') : BoxE w' g e := h.keep hb.size fun p hp => hb.cell (by rw [hp]; exact h.lt)
theorem WInv.eq {w : World} {base b m : Nat} {s s' : SS} {A : Nat → Option Addr} {c : Nat → Nat} (h : WInv w base b m s A c) (e : s = s') : WInv w base b m s' A c := e ▸ h
theorem info182 : (Try.prog.info? 182).map (fun i => (i.zero, i.size, i.bytes)) = some (some (.agg #[.int .u64 0, .int .u64 0]), 2, 16) := by kernel_rfl
theorem adv_is {s s' : SS} {e : Ev} {t : Nat} (ht : e.th.toNat = t) (h1 : s'.t t = advT (s.t t) e) (h2 : ∀ i, i ≠ t → s'.t i = s.t i) (h3 : s'.num = if e.kind = 6 ∧ (s.t t).how = 2 then e.word else s.num) : s' = adv s e := by
  obtain ⟨f, n⟩ := s'
  simp only at h1 h2 h3
  subst h3
  simp only [adv, ht, SS.mk.injEq, and_true]
  funext i
  by_cases h : i = t
  · subst h; simp [h1]
  · simp [h, h2 i h]
set_option linter.unusedSimpArgs false in
set_option maxRecDepth 100000 in
set_option maxHeartbeats 6400000 in
theorem put_any (base b m : Nat) (s : SS) (A : Nat → Option Addr) (c : Nat → Nat) (e : Ev) (w : World) (he : e.Wd) (hm : m ≤ 1099511627776) (hI : WInv w base b m s A c) (hbase : base ≤ w.heap.size) :
    Calls Try.prog 89 #[.pointer (some ⟨b, 0, none⟩), evV e] w fun e' w' => e' = .returned (.int .i64 (putE s e)) ∧ Below base w w' ∧ (putE s e = 0 → ∃ A' c', WInv w' base b (m + 1) (adv s e) A' c') := by
  obtain ⟨t, k, a, x, o, er⟩ := e
  have HE := Lib.hid he
  have HI := Lib.hid hI
  have hb := hI.blk.lt
  have HB := Lib.hid ((Below.refl w.heap.size w).alloc (Nat.le_refl _) (.cells #[.int .i64 t, .int .i64 k, .int .u64 a, .int .u64 x, .bool o, .int .i64 er] 97))
  generalize hP : putE s ⟨t, k, a, x, o, er⟩ = pe
  have HP := Lib.hid hP
  clear hP he hI
  show Calls Try.prog 89 #[.pointer (some ⟨b, 0, none⟩), .agg #[.int .i64 t, .int .i64 k, .int .u64 a, .int .u64 x, .bool o, .int .i64 er]] w _
  by_cases hF : Fm ⟨t, k, a, x, o, er⟩
  · have hd : decide (Fm ⟨t, k, a, x, o, er⟩) = true := decide_eq_true hF
    have hth := hF.1
    simp only at hth
    obtain ⟨t, rfl⟩ := Int.eq_ofNat_of_zero_le hth.1
    have i1 : (0 : Int) ≤ (t : Int) := by omega
    have i2 : (t : Int) < 8 := hth.2
    have h8 : t < 8 := by omega
    have hfo := fun w => formed_any ⟨t, k, a, x, o, er⟩ w HE.out
    rw [hd] at hfo
    clear hth hd
    go_enter Try.func89, Try.ntmps89
    go_wp2_with (go_at_call 111; refine halt_ ?_)
    refine Halt_.go ?_
    refine (hfo _).mono ?_
    rintro e w1 ⟨rfl, hb1⟩
    have HI1 := Lib.hid ((HI.out.kept HB.out).kept hb1)
    have HX1 := Lib.hid ((BoxE.made w ⟨t, k, a, x, o, er⟩).below hb1)
    have HB1 := Lib.hid ((HB.out.trans (hb1.mono HB.out.size)).mono hbase)
    have hz1 : base ≤ w1.heap.size := Nat.le_trans hbase HB1.out.size
    clear hfo hb1 HB
    obtain ⟨hg, c0, c1, c2, c3, c4, c5⟩ := HX1.out
    have d1 := HI1.out.cells.how t h8
    obtain ⟨nx, hnx⟩ : ∃ nx, nx = nextI (s.t t).how k er := ⟨_, rfl⟩
    have htu : ∀ w, Calls Try.prog 112 #[.int .i64 (s.t t).how, .agg #[.int .i64 t, .int .i64 k, .int .u64 a, .int .u64 x, .bool o, .int .i64 er]] w fun e' w' => e' = .returned (.int .i64 nx) ∧ Below w.heap.size w w' := fun w => by rw [hnx]; exact turn_any _ ⟨t, k, a, x, o, er⟩ w
    have HTU := Lib.hid htu
    have HNX := Lib.hid hnx
    have HLT := Lib.hid (fun q hq => (World.ownsRow.lt (HI.out.own t h8) q hq).2 : ∀ q, (Value.slice (A t) (s.t t).wr.length (c t)).ownBlock = some q → q < w.heap.size)
    have hgb : b < w.heap.size := hb.2
    have hgb2 : b ≠ w.heap.size := by omega
    clear htu hnx HI
    generalize w.heap.size = g at *
    go_wp2
    go_quiet (fail)
    go_wp2
    have hbw := HI1.out.blk.lt.2
    refine wp_region_held_drew (S := (fun W => W.cell? ⟨b, t * 3, none⟩ = some (.int .i64 (s.t t).how) ∧ W.cell? ⟨g, 0, none⟩ = some (.int .i64 (t : Int)) ∧ W.cell? ⟨g, 1, none⟩ = some (.int .i64 k) ∧ W.cell? ⟨g, 2, none⟩ = some (.int .u64 a) ∧ W.cell? ⟨g, 3, none⟩ = some (.int .u64 x) ∧ W.cell? ⟨g, 4, none⟩ = some (.bool o) ∧ W.cell? ⟨g, 5, none⟩ = some (.int .i64 er))) (by kernel_rfl) ⟨d1, c0, c1, c2, c3, c4, c5⟩ (fun hHeld => ?_)
    refine wpAnyH_take (i := 0) (oi := _) (v := ?v0) rfl (by kernel_rfl) (by kernel_rfl) (by kernel_rfl) (fun _ _ _ h => h) (Or.inl ⟨by rfl, ?hy0⟩) (by assumption) ?rest0
    case hy0 => ((intro w hSw; (try dsimp only at hSw); go_simp); (try with_reducible rfl))
    (try simp only [Act.put, Array.getInternal_eq_getElem, List.getElem_toArray, List.getElem_cons_zero, List.getElem_cons_succ, List.setIfInBounds_toArray, List.set_cons_zero, List.set_cons_succ])
    refine wpAnyH_take (i := 1) (oi := _) (v := ?v1) rfl (by kernel_rfl) (by kernel_rfl) (by kernel_rfl) (fun _ _ _ h => h) (Or.inl ⟨by rfl, ?hy1⟩) (by assumption) ?rest1
    case hy1 => ((intro w hSw; (try dsimp only at hSw); go_simp); (try with_reducible rfl))
    (try simp only [Act.put, Array.getInternal_eq_getElem, List.getElem_toArray, List.getElem_cons_zero, List.getElem_cons_succ, List.setIfInBounds_toArray, List.set_cons_zero, List.set_cons_succ])
    refine wpAnyH_take (i := 2) (oi := _) (v := ?v2) rfl (by kernel_rfl) (by kernel_rfl) (by kernel_rfl) (fun _ _ _ h => h) (Or.inl ⟨by rfl, ?hy2⟩) (by assumption) ?rest2
    case hy2 => ((intro w hSw; (try dsimp only at hSw); go_simp); (try with_reducible rfl))
    (try simp only [Act.put, Array.getInternal_eq_getElem, List.getElem_toArray, List.getElem_cons_zero, List.getElem_cons_succ, List.setIfInBounds_toArray, List.set_cons_zero, List.set_cons_succ])
    refine wpAnyH_take (i := 3) (oi := _) (v := ?v3) rfl (by kernel_rfl) (by kernel_rfl) (by kernel_rfl) (fun _ _ _ h => h) (Or.inl ⟨by rfl, ?hy3⟩) (by assumption) ?rest3
    case hy3 => ((intro w hSw; (try dsimp only at hSw); go_simp); (try with_reducible rfl))
    (try simp only [Act.put, Array.getInternal_eq_getElem, List.getElem_toArray, List.getElem_cons_zero, List.getElem_cons_succ, List.setIfInBounds_toArray, List.set_cons_zero, List.set_cons_succ])
    refine wpAnyH_take (i := 4) (oi := _) (v := ?v4) rfl (by kernel_rfl) (by kernel_rfl) (by kernel_rfl) (fun _ _ _ h => h) (Or.inl ⟨by rfl, ?hy4⟩) (by assumption) ?rest4
    case hy4 => ((intro w hSw; (try dsimp only at hSw); go_simp); (try with_reducible rfl))
    (try simp only [Act.put, Array.getInternal_eq_getElem, List.getElem_toArray, List.getElem_cons_zero, List.getElem_cons_succ, List.setIfInBounds_toArray, List.set_cons_zero, List.set_cons_succ])
    refine wpAnyH_ready (rs := [5]) (by kernel_rfl) (by simp) ?_
    refine AllReadyH.cons (o := _) rfl (fun K hK => ?_) AllReadyH.nil
    go_simp
    (go_at_call 112; refine (HTU.out (w1.drewN nq).drew).mono ?_; rintro e w2 ⟨rfl, hb2⟩; have hS2 : w2.cell? ⟨b, t * 3, none⟩ = some (.int .i64 (s.t t).how) ∧ w2.cell? ⟨g, 0, none⟩ = some (.int .i64 (t : Int)) ∧ w2.cell? ⟨g, 1, none⟩ = some (.int .i64 k) ∧ w2.cell? ⟨g, 2, none⟩ = some (.int .u64 a) ∧ w2.cell? ⟨g, 3, none⟩ = some (.int .u64 x) ∧ w2.cell? ⟨g, 4, none⟩ = some (.bool o) ∧ w2.cell? ⟨g, 5, none⟩ = some (.int .i64 er) := ⟨(hb2.cell (p := ⟨b, t * 3, none⟩) hbw).trans d1, (hb2.cell (p := ⟨g, 0, none⟩) hg).trans c0, (hb2.cell (p := ⟨g, 1, none⟩) hg).trans c1, (hb2.cell (p := ⟨g, 2, none⟩) hg).trans c2, (hb2.cell (p := ⟨g, 3, none⟩) hg).trans c3, (hb2.cell (p := ⟨g, 4, none⟩) hg).trans c4, (hb2.cell (p := ⟨g, 5, none⟩) hg).trans c5⟩)
    refine hK.out _ _ hS2 (fun hHeld => ?_)
    clear hK K
    (try simp only [Act.put, Array.getInternal_eq_getElem, List.getElem_toArray, List.getElem_cons_zero, List.getElem_cons_succ, List.setIfInBounds_toArray, List.set_cons_zero, List.set_cons_succ])
    refine wpAnyH_take (i := 6) (oi := _) (v := ?v6) rfl (by kernel_rfl) (by kernel_rfl) (by kernel_rfl) (fun _ _ _ h => h) (Or.inl ⟨by rfl, ?hy6⟩) (by assumption) ?rest6
    case hy6 => ((intro w hSw; (try dsimp only at hSw); go_simp); (try with_reducible rfl))
    (try simp only [Act.put, Array.getInternal_eq_getElem, List.getElem_toArray, List.getElem_cons_zero, List.getElem_cons_succ, List.setIfInBounds_toArray, List.set_cons_zero, List.set_cons_succ])
    refine wpAnyH_done (by kernel_rfl) ?_ _
    have HI2 := Lib.hid (((HI1.out.kept (bdrewN (Below.refl _ _) nq)).kept ((Below.refl _ _).drew)).kept hb2)
    have HX2 := Lib.hid (((HX1.out.below (bdrewN (Below.refl _ _) nq)).below ((Below.refl _ _).drew)).below hb2)
    have HB2 := Lib.hid (((bdrewN HB1.out nq).drew).trans (hb2.mono (by simpa using hz1)))
    have hz2 : base ≤ w2.heap.size := Nat.le_trans hz1 hb2.size
    clear hb2 hS2 HI1 HX1 HB1 c0 c1 c2 c3 c4 c5 d1 hg hz1 HTU hbw
    obtain ⟨lk, hlk⟩ : ∃ x, x = lockedB s t := ⟨_, rfl⟩
    obtain ⟨nb, hnb⟩ : ∃ z, z = numB s ⟨t, k, a, x, o, er⟩ := ⟨_, rfl⟩
    obtain ⟨ob, hob⟩ : ∃ z, z = ownB s ⟨t, k, a, x, o, er⟩ := ⟨_, rfl⟩
    have key : pe = if nx < 0 then 230 else if LockK k ∧ lk = true then 231 else if nb = false then 232 else if ob = false then 233 else 0 := by
      rw [← HP.out, HNX.out, hlk, hnb, hob]
      simp only [putE, hF, not_true, if_false, Int.toNat_natCast]
    have HK := Lib.hid key
    have HLK := Lib.hid (fun w hc => by rw [hlk]; exact locked_any b t s A c w hc : ∀ w, WldC w b s A c → Calls Try.prog 113 #[.pointer (some ⟨b, 0, none⟩), .int .i64 t] w fun e w' => e = .returned (.bool lk) ∧ w' = w)
    have HNB := Lib.hid (fun w hc hb => by rw [hnb]; exact number_any b t s A c ⟨t, k, a, x, o, er⟩ w (by simp) h8 hc.cells hb (hc.snap t h8) :
      ∀ w, WInv w base b m s A c → b < w.heap.size → Calls Try.prog 114 #[.pointer (some ⟨b, 0, none⟩), .pointer (some ⟨b, t * 3, none⟩), .agg #[.int .i64 t, .int .i64 k, .int .u64 a, .int .u64 x, .bool o, .int .i64 er]] w fun e' w' => e' = .returned (.bool nb) ∧ Below w.heap.size w w')
    have HOB := Lib.hid (fun w hc hb => by rw [hob]; exact own_any b t s A c ⟨t, k, a, x, o, er⟩ w (by simp) h8 hc.cells hb (Nat.le_trans (hc.len t h8) hm) (hc.own t h8).reads :
      ∀ w, WInv w base b m s A c → b < w.heap.size → Calls Try.prog 115 #[.pointer (some ⟨b, t * 3, none⟩), .agg #[.int .i64 t, .int .i64 k, .int .u64 a, .int .u64 x, .bool o, .int .i64 er]] w fun e' w' => e' = .returned (.bool ob) ∧ Below w.heap.size w w')
    clear hlk hnb hob key HP
    by_cases hneg : nx < 0
    · have hpe : pe = 230 := by rw [HK.out, if_pos hneg]
      go_wp2
      go_ret
      exact ⟨by rw [hpe]; rfl, HB2.out, fun h => by omega⟩
    · have HK2 := Lib.hid (show pe = if LockK k ∧ lk = true then 231 else if nb = false then 232 else if ob = false then 233 else 0 by rw [HK.out, if_neg hneg])
      clear HK
      by_cases hL : LockK k ∧ lk = true
      · have hpe : pe = 231 := by rw [HK2.out, if_pos hL]
        obtain ⟨hL, rfl⟩ := hL
        have hcl := HI2.out.cells
        obtain ⟨hg, c0, c1, c2, c3, c4, c5⟩ := HX2.out
        have HB2' := HB2
        clear HI2 HX2
        rcases hL with rfl | rfl | rfl
        all_goals
          go_wp2_with (first
            | (go_at_call 113; refine (HLK.out _ hcl).mono ?_; rintro e wx ⟨rfl, rfl⟩))
          go_ret
          exact ⟨by rw [hpe]; rfl, HB2'.out, fun h => by omega⟩
      · have HK3 := Lib.hid (show pe = if nb = false then 232 else if ob = false then 233 else 0 by rw [HK2.out, if_neg hL])
        clear HK2
        have hcl := HI2.out.cells
        obtain ⟨hg, c0, c1, c2, c3, c4, c5⟩ := HX2.out
        have hlk : ¬ LockK k ∨ lk = false := by
          by_cases h : LockK k
          · right
            cases lk with
            | false => rfl
            | true => exact absurd ⟨h, rfl⟩ hL
          · exact .inl h
        clear hL
        -- number
        have hcls : (k = 1 ∧ lk = false) ∨ (k = 4 ∧ lk = false) ∨ (k = 5 ∧ lk = false) ∨ k = 3 ∨ k = 6 ∨ Hid (k ≠ 1 ∧ k ≠ 3 ∧ k ≠ 4 ∧ k ≠ 5 ∧ k ≠ 6) := by
          by_cases h : LockK k
          · have hl := hlk.resolve_left (fun h' => h' h)
            rcases h with h | h | h
            · exact .inl ⟨h, hl⟩
            · exact .inr (.inl ⟨h, hl⟩)
            · exact .inr (.inr (.inl ⟨h, hl⟩))
          · by_cases h3 : k = 3
            · exact .inr (.inr (.inr (.inl h3)))
            · by_cases h6 : k = 6
              · exact .inr (.inr (.inr (.inr (.inl h6))))
              · refine .inr (.inr (.inr (.inr (.inr ⟨fun e => h (.inl e), h3, fun e => h (.inr (.inl e)), fun e => h (.inr (.inr e)), h6⟩))))
        clear hlk
        have hbw2 := HI2.out.blk.lt.2
        have hnu := HNB.out w2 HI2.out hbw2
        clear HNB
        rcases hcls with ⟨rfl, rfl⟩ | ⟨rfl, rfl⟩ | ⟨rfl, rfl⟩ | rfl | rfl | hnl
        · go_wp2_with (first
            | (go_at_call 113; refine (HLK.out _ hcl).mono ?_; rintro e wx ⟨rfl, rfl⟩)
            | (go_at_call 114; refine halt_ ?_))
          refine Halt_.go ?_
          refine hnu.mono ?_
          rintro e w3 ⟨rfl, hb3⟩
          have HI3 := Lib.hid (HI2.out.kept hb3)
          have HX3 := Lib.hid (HX2.out.below hb3)
          have HB3 := Lib.hid (HB2.out.trans (hb3.mono hz2))
          have hz3 : base ≤ w3.heap.size := Nat.le_trans hz2 hb3.size
          clear hb3 HI2 HX2 HB2 hz2 hnu hcl HLK c0 c1 c2 c3 c4 c5 hg
          obtain rfl | rfl : nb = false ∨ nb = true := by cases nb <;> simp
          · have hpe : pe = 232 := by rw [HK3.out, if_pos rfl]
            go_wp2
            go_ret
            exact ⟨by rw [hpe]; rfl, HB3.out, fun h => by omega⟩
          have hbw3 := HI3.out.blk.lt.2
          have how := HOB.out w3 HI3.out hbw3
          obtain ⟨hg, c0, c1, c2, c3, c4, c5⟩ := HX3.out
          have d1 := HI3.out.cells.how t h8
          go_wp2_with (go_at_call 115; refine halt_ ?_)
          refine Halt_.go ?_
          refine how.mono ?_
          rintro e w4 ⟨rfl, hb4⟩
          have HI4 := Lib.hid (HI3.out.kept hb4)
          have HX4 := Lib.hid (HX3.out.below hb4)
          have HB4 := Lib.hid (HB3.out.trans (hb4.mono hz3))
          have hz4 : base ≤ w4.heap.size := Nat.le_trans hz3 hb4.size
          clear hb4 HI3 HX3 HB3 hz3 how HOB c0 c1 c2 c3 c4 c5 hg d1 hbw3
          obtain rfl | rfl : ob = false ∨ ob = true := by cases ob <;> simp
          · have hpe : pe = 233 := by rw [HK3.out, if_neg (by simp), if_pos rfl]
            go_wp2
            go_ret
            exact ⟨by rw [hpe]; rfl, HB4.out, fun h => by omega⟩
          have hpe : pe = 0 := by rw [HK3.out, if_neg (by simp), if_neg (by simp)]
          have HPE := Lib.hid hpe
          obtain ⟨hg, c0, c1, c2, c3, c4, c5⟩ := HX4.out
          have d1 := HI4.out.cells.how t h8
          have f1 := (HI4.out.blk.cell (j := t * 3) (by omega)).2
          have d2 := HI4.out.cells.snap t h8
          have f2 := (HI4.out.blk.cell (j := t * 3 + 1) (by omega)).2
          have d3 := HI4.out.cells.wr t h8
          have f3 := (HI4.out.blk.cell (j := t * 3 + 2) (by omega)).2
          have d4 := HI4.out.cells.num
          have f4 := (HI4.out.blk.cell (j := 24) (by omega)).2
          clear hpe HK3 HX4 hneg
          go_wp2
          go_ret
          have hI := ((HI4.out.list' h8 none 0 [] (OwnP.nil _ _) (fun _ _ _ => rfl) (by simp) (.inl rfl)).snap' t x HE.out.2).how' h8 nx
          exact ⟨by rw [HPE.out]; rfl, ((HB4.out.setCell hb.1 _).setCell hb.1 _).setCell hb.1 _, fun _ => ⟨_, _, hI.eq (adv_is (t := t) (by simp) (by simp [setT, advT, HNX.out]) (fun i hi => by simp [setT, hi]) (by simp [setT]))⟩⟩
        · go_wp2_with (first
            | (go_at_call 113; refine (HLK.out _ hcl).mono ?_; rintro e wx ⟨rfl, rfl⟩)
            | (go_at_call 114; refine halt_ ?_))
          refine Halt_.go ?_
          refine hnu.mono ?_
          rintro e w3 ⟨rfl, hb3⟩
          have HI3 := Lib.hid (HI2.out.kept hb3)
          have HX3 := Lib.hid (HX2.out.below hb3)
          have HB3 := Lib.hid (HB2.out.trans (hb3.mono hz2))
          have hz3 : base ≤ w3.heap.size := Nat.le_trans hz2 hb3.size
          clear hb3 HI2 HX2 HB2 hz2 hnu hcl HLK c0 c1 c2 c3 c4 c5 hg
          obtain rfl | rfl : nb = false ∨ nb = true := by cases nb <;> simp
          · have hpe : pe = 232 := by rw [HK3.out, if_pos rfl]
            go_wp2
            go_ret
            exact ⟨by rw [hpe]; rfl, HB3.out, fun h => by omega⟩
          have hbw3 := HI3.out.blk.lt.2
          have how := HOB.out w3 HI3.out hbw3
          obtain ⟨hg, c0, c1, c2, c3, c4, c5⟩ := HX3.out
          have d1 := HI3.out.cells.how t h8
          go_wp2_with (go_at_call 115; refine halt_ ?_)
          refine Halt_.go ?_
          refine how.mono ?_
          rintro e w4 ⟨rfl, hb4⟩
          have HI4 := Lib.hid (HI3.out.kept hb4)
          have HX4 := Lib.hid (HX3.out.below hb4)
          have HB4 := Lib.hid (HB3.out.trans (hb4.mono hz3))
          have hz4 : base ≤ w4.heap.size := Nat.le_trans hz3 hb4.size
          clear hb4 HI3 HX3 HB3 hz3 how HOB c0 c1 c2 c3 c4 c5 hg d1 hbw3
          obtain rfl | rfl : ob = false ∨ ob = true := by cases ob <;> simp
          · have hpe : pe = 233 := by rw [HK3.out, if_neg (by simp), if_pos rfl]
            go_wp2
            go_ret
            exact ⟨by rw [hpe]; rfl, HB4.out, fun h => by omega⟩
          have hpe : pe = 0 := by rw [HK3.out, if_neg (by simp), if_neg (by simp)]
          have HPE := Lib.hid hpe
          obtain ⟨hg, c0, c1, c2, c3, c4, c5⟩ := HX4.out
          have d1 := HI4.out.cells.how t h8
          have f1 := (HI4.out.blk.cell (j := t * 3) (by omega)).2
          have d2 := HI4.out.cells.snap t h8
          have f2 := (HI4.out.blk.cell (j := t * 3 + 1) (by omega)).2
          have d3 := HI4.out.cells.wr t h8
          have f3 := (HI4.out.blk.cell (j := t * 3 + 2) (by omega)).2
          have d4 := HI4.out.cells.num
          have f4 := (HI4.out.blk.cell (j := 24) (by omega)).2
          clear hpe HK3 HX4 hneg
          go_wp2
          go_ret
          have hI := ((HI4.out.snap' t x HE.out.2).how' h8 nx).more (Nat.le_succ m)
          exact ⟨by rw [HPE.out]; rfl, (HB4.out.setCell hb.1 _).setCell hb.1 _, fun _ => ⟨_, _, hI.eq (adv_is (t := t) (by simp) (by simp [setT, advT, HNX.out]) (fun i hi => by simp [setT, hi]) (by simp [setT]))⟩⟩
        · go_wp2_with (first
            | (go_at_call 113; refine (HLK.out _ hcl).mono ?_; rintro e wx ⟨rfl, rfl⟩)
            | (go_at_call 114; refine halt_ ?_))
          refine Halt_.go ?_
          refine hnu.mono ?_
          rintro e w3 ⟨rfl, hb3⟩
          have HI3 := Lib.hid (HI2.out.kept hb3)
          have HX3 := Lib.hid (HX2.out.below hb3)
          have HB3 := Lib.hid (HB2.out.trans (hb3.mono hz2))
          have hz3 : base ≤ w3.heap.size := Nat.le_trans hz2 hb3.size
          clear hb3 HI2 HX2 HB2 hz2 hnu hcl HLK c0 c1 c2 c3 c4 c5 hg
          obtain rfl | rfl : nb = false ∨ nb = true := by cases nb <;> simp
          · have hpe : pe = 232 := by rw [HK3.out, if_pos rfl]
            go_wp2
            go_ret
            exact ⟨by rw [hpe]; rfl, HB3.out, fun h => by omega⟩
          have hbw3 := HI3.out.blk.lt.2
          have how := HOB.out w3 HI3.out hbw3
          obtain ⟨hg, c0, c1, c2, c3, c4, c5⟩ := HX3.out
          have d1 := HI3.out.cells.how t h8
          go_wp2_with (go_at_call 115; refine halt_ ?_)
          refine Halt_.go ?_
          refine how.mono ?_
          rintro e w4 ⟨rfl, hb4⟩
          have HI4 := Lib.hid (HI3.out.kept hb4)
          have HX4 := Lib.hid (HX3.out.below hb4)
          have HB4 := Lib.hid (HB3.out.trans (hb4.mono hz3))
          have hz4 : base ≤ w4.heap.size := Nat.le_trans hz3 hb4.size
          clear hb4 HI3 HX3 HB3 hz3 how HOB c0 c1 c2 c3 c4 c5 hg d1 hbw3
          obtain rfl | rfl : ob = false ∨ ob = true := by cases ob <;> simp
          · have hpe : pe = 233 := by rw [HK3.out, if_neg (by simp), if_pos rfl]
            go_wp2
            go_ret
            exact ⟨by rw [hpe]; rfl, HB4.out, fun h => by omega⟩
          have hpe : pe = 0 := by rw [HK3.out, if_neg (by simp), if_neg (by simp)]
          have HPE := Lib.hid hpe
          obtain ⟨hg, c0, c1, c2, c3, c4, c5⟩ := HX4.out
          have d1 := HI4.out.cells.how t h8
          have f1 := (HI4.out.blk.cell (j := t * 3) (by omega)).2
          have d2 := HI4.out.cells.snap t h8
          have f2 := (HI4.out.blk.cell (j := t * 3 + 1) (by omega)).2
          have d3 := HI4.out.cells.wr t h8
          have f3 := (HI4.out.blk.cell (j := t * 3 + 2) (by omega)).2
          have d4 := HI4.out.cells.num
          have f4 := (HI4.out.blk.cell (j := 24) (by omega)).2
          clear hpe HK3 HX4 hneg
          go_wp2
          go_ret
          have hI := (HI4.out.how' h8 nx).more (Nat.le_succ m)
          exact ⟨by rw [HPE.out]; rfl, HB4.out.setCell hb.1 _, fun _ => ⟨_, _, hI.eq (adv_is (t := t) (by simp) (by simp [setT, advT, HNX.out]) (fun i hi => by simp [setT, hi]) (by simp [setT]))⟩⟩
        · go_wp2_with (go_at_call 114; refine halt_ ?_)
          refine Halt_.go ?_
          refine hnu.mono ?_
          rintro e w3 ⟨rfl, hb3⟩
          have HI3 := Lib.hid (HI2.out.kept hb3)
          have HX3 := Lib.hid (HX2.out.below hb3)
          have HB3 := Lib.hid (HB2.out.trans (hb3.mono hz2))
          have hz3 : base ≤ w3.heap.size := Nat.le_trans hz2 hb3.size
          clear hb3 HI2 HX2 HB2 hz2 hnu hcl HLK c0 c1 c2 c3 c4 c5 hg
          obtain rfl | rfl : nb = false ∨ nb = true := by cases nb <;> simp
          · have hpe : pe = 232 := by rw [HK3.out, if_pos rfl]
            go_wp2
            go_ret
            exact ⟨by rw [hpe]; rfl, HB3.out, fun h => by omega⟩
          have hbw3 := HI3.out.blk.lt.2
          have how := HOB.out w3 HI3.out hbw3
          obtain ⟨hg, c0, c1, c2, c3, c4, c5⟩ := HX3.out
          have d1 := HI3.out.cells.how t h8
          go_wp2_with (go_at_call 115; refine halt_ ?_)
          refine Halt_.go ?_
          refine how.mono ?_
          rintro e w4 ⟨rfl, hb4⟩
          have HI4 := Lib.hid (HI3.out.kept hb4)
          have HX4 := Lib.hid (HX3.out.below hb4)
          have HB4 := Lib.hid (HB3.out.trans (hb4.mono hz3))
          have hz4 : base ≤ w4.heap.size := Nat.le_trans hz3 hb4.size
          clear hb4 HI3 HX3 HB3 hz3 how HOB c0 c1 c2 c3 c4 c5 hg d1 hbw3
          obtain rfl | rfl : ob = false ∨ ob = true := by cases ob <;> simp
          · have hpe : pe = 233 := by rw [HK3.out, if_neg (by simp), if_pos rfl]
            go_wp2
            go_ret
            exact ⟨by rw [hpe]; rfl, HB4.out, fun h => by omega⟩
          have hpe : pe = 0 := by rw [HK3.out, if_neg (by simp), if_neg (by simp)]
          have HPE := Lib.hid hpe
          obtain ⟨hg, c0, c1, c2, c3, c4, c5⟩ := HX4.out
          have d1 := HI4.out.cells.how t h8
          have f1 := (HI4.out.blk.cell (j := t * 3) (by omega)).2
          have d2 := HI4.out.cells.snap t h8
          have f2 := (HI4.out.blk.cell (j := t * 3 + 1) (by omega)).2
          have d3 := HI4.out.cells.wr t h8
          have f3 := (HI4.out.blk.cell (j := t * 3 + 2) (by omega)).2
          have d4 := HI4.out.cells.num
          have f4 := (HI4.out.blk.cell (j := 24) (by omega)).2
          clear hpe HK3 HX4 hneg
          have hown := HI4.out.own t h8
          have hlen := HI4.out.len t h8
          have hne0 : some b ≠ (Value.slice (A t) (s.t t).wr.length (c t)).ownBlock := fun e => HI4.out.notb h8 e.symm
          have hbw4 := HI4.out.blk.lt.2
          have hwd := HE.out
          have HOW := Lib.hid hown
          clear hown
          go_wp2
          go_region_law
            ((refine step_append_two _ (by rfl) (.tmp 82) (.tmp 88) 137 (by rfl) base 182 _ 2 16 info182 Try.underlying137 rfl (by decide) (.slice (A t) (s.t t).wr.length (c t)) (s.t t).wr.length ((s.t t).wr.flatMap pcells) (by rfl) ((World.ownsRow.drew HOW.out).alloc _) (w4.heap.size) 1 [.int .u64 a, .int .u64 x] (by rfl) (heap_at _ _ _ (by simp)) rfl (by simp [Value.oneCell']) (by omega) (by omega) (by simp; omega) ?_; intro g2 cap2 w5 hown5 hlt5 htwo; have hq2 : w5.cell? ⟨b, t * 3 + 2, none⟩ = some (.slice (A t) (s.t t).wr.length (c t)) := (two_grown htwo).cell (by simp [World.cell?_alloc_some, d3]) hne0; have hq3 : w5.frozen? ⟨b, t * 3 + 2, none⟩ = false := grown_frozen (two_grown htwo) (by simp; omega) hne0 (by simp [frozen?_alloc_cells, f3])))
          all_goals
            have hgr := grown_trans (grown_trans (grown_drew w4 _) (World.grownBy_alloc _ _ _)) (two_grown htwo)
            have hat : (Value.slice (some ⟨g2, 0, none⟩) ((s.t t).wr ++ [(a, x)]).length cap2).ownBlock = none ∨ (Value.slice (some ⟨g2, 0, none⟩) ((s.t t).wr ++ [(a, x)]).length cap2).ownBlock = (Value.slice (A t) (s.t t).wr.length (c t)).ownBlock ∨ ∃ g', (Value.slice (some ⟨g2, 0, none⟩) ((s.t t).wr ++ [(a, x)]).length cap2).ownBlock = some g' ∧ w4.heap.size ≤ g' := by
              rcases htwo with ⟨h1, _⟩ | ⟨h1, _⟩
              · exact .inr (.inl h1.symm)
              · refine .inr (.inr ⟨g2, rfl, ?_⟩)
                simp at h1
                omega
            have e1 : ((s.t t).wr ++ [(a, x)]).length = (s.t t).wr.length + 1 := by simp
            have hop : OwnP w5 base (some ⟨g2, 0, none⟩) cap2 ((s.t t).wr ++ [(a, x)]) := by
              unfold OwnP
              rw [e1, show ((s.t t).wr ++ [(a, x)]).flatMap pcells = (s.t t).wr.flatMap pcells ++ [.int .u64 a, .int .u64 x] by simp [pcells]]
              exact hown5
            have hI := (HI4.out.list' h8 (some ⟨g2, 0, none⟩) cap2 ((s.t t).wr ++ [(a, x)]) hop (fun q hq hne => hgr.block q hq (fun e => hne e.symm)) (by rw [e1]; omega) hat).how' h8 nx
            rw [e1] at hI
            have hB5 := ((HB4.out.grown hgr hz4 (fun q hq => (World.ownsRow.lt HOW.out q hq).1)).setCell (p := ⟨b, t * 3 + 2, none⟩) hb.1 (.slice (some ⟨g2, 0, none⟩) ((s.t t).wr.length + 1) cap2)).setCell (p := ⟨b, t * 3, none⟩) hb.1 (.int .i64 nx)
            have HI5 := Lib.hid hI
            have HB5 := Lib.hid hB5
            have hgw5 := hgr.size
            have hgbl : g < w4.heap.size := hg
            have hneg2 : some g ≠ (Value.slice (A t) (s.t t).wr.length (c t)).ownBlock := fun e => by have := HLT.out g e.symm; omega
            have q4 : w5.cell? ⟨g, 1, none⟩ = some (.int .i64 3) := hgr.cell c1 hneg2
            have q5 : w5.cell? ⟨b, t * 3, none⟩ = some (.int .i64 (s.t t).how) := hgr.cell d1 hne0
            have q6 : w5.frozen? ⟨b, t * 3, none⟩ = false := grown_frozen hgr (by exact hbw4) hne0 f1
            clear hI hB5 hgr hat hop hown5 htwo hlt5
            go_wp2
            go_ret
            exact ⟨by rw [HPE.out]; rfl, HB5.out, fun _ => ⟨_, _, HI5.out.eq (adv_is (t := t) (by simp) (by simp [setT, advT, HNX.out]) (fun i hi => by simp [setT, hi]) (by simp [setT]))⟩⟩
        · go_wp2_with (go_at_call 114; refine halt_ ?_)
          refine Halt_.go ?_
          refine hnu.mono ?_
          rintro e w3 ⟨rfl, hb3⟩
          have HI3 := Lib.hid (HI2.out.kept hb3)
          have HX3 := Lib.hid (HX2.out.below hb3)
          have HB3 := Lib.hid (HB2.out.trans (hb3.mono hz2))
          have hz3 : base ≤ w3.heap.size := Nat.le_trans hz2 hb3.size
          clear hb3 HI2 HX2 HB2 hz2 hnu hcl HLK c0 c1 c2 c3 c4 c5 hg
          obtain rfl | rfl : nb = false ∨ nb = true := by cases nb <;> simp
          · have hpe : pe = 232 := by rw [HK3.out, if_pos rfl]
            go_wp2
            go_ret
            exact ⟨by rw [hpe]; rfl, HB3.out, fun h => by omega⟩
          have hbw3 := HI3.out.blk.lt.2
          have how := HOB.out w3 HI3.out hbw3
          obtain ⟨hg, c0, c1, c2, c3, c4, c5⟩ := HX3.out
          have d1 := HI3.out.cells.how t h8
          go_wp2_with (go_at_call 115; refine halt_ ?_)
          refine Halt_.go ?_
          refine how.mono ?_
          rintro e w4 ⟨rfl, hb4⟩
          have HI4 := Lib.hid (HI3.out.kept hb4)
          have HX4 := Lib.hid (HX3.out.below hb4)
          have HB4 := Lib.hid (HB3.out.trans (hb4.mono hz3))
          have hz4 : base ≤ w4.heap.size := Nat.le_trans hz3 hb4.size
          clear hb4 HI3 HX3 HB3 hz3 how HOB c0 c1 c2 c3 c4 c5 hg d1 hbw3
          obtain rfl | rfl : ob = false ∨ ob = true := by cases ob <;> simp
          · have hpe : pe = 233 := by rw [HK3.out, if_neg (by simp), if_pos rfl]
            go_wp2
            go_ret
            exact ⟨by rw [hpe]; rfl, HB4.out, fun h => by omega⟩
          have hpe : pe = 0 := by rw [HK3.out, if_neg (by simp), if_neg (by simp)]
          have HPE := Lib.hid hpe
          obtain ⟨hg, c0, c1, c2, c3, c4, c5⟩ := HX4.out
          have d1 := HI4.out.cells.how t h8
          have f1 := (HI4.out.blk.cell (j := t * 3) (by omega)).2
          have d2 := HI4.out.cells.snap t h8
          have f2 := (HI4.out.blk.cell (j := t * 3 + 1) (by omega)).2
          have d3 := HI4.out.cells.wr t h8
          have f3 := (HI4.out.blk.cell (j := t * 3 + 2) (by omega)).2
          have d4 := HI4.out.cells.num
          have f4 := (HI4.out.blk.cell (j := 24) (by omega)).2
          clear hpe HK3 HX4 hneg
          by_cases h2 : (s.t t).how = 2
          · have HH2 := Lib.hid h2
            rw [h2] at d1
            clear h2
            go_wp2
            go_ret
            have hI := ((HI4.out.num' x).how' h8 nx).more (Nat.le_succ m)
            exact ⟨by rw [HPE.out]; rfl, (HB4.out.setCell hb.1 _).setCell hb.1 _, fun _ => ⟨_, _, hI.eq (adv_is (t := t) (by simp) (by simp [setT, advT, HNX.out]) (fun i hi => by simp [setT, hi]) (by simp [setT, HH2.out]))⟩⟩
          · have HH2 := Lib.hid h2
            have e2 : ((s.t t).how == 2) = false := by simpa using h2
            clear h2
            go_wp2
            go_ret
            have hI := (HI4.out.how' h8 nx).more (Nat.le_succ m)
            exact ⟨by rw [HPE.out]; rfl, HB4.out.setCell hb.1 _, fun _ => ⟨_, _, hI.eq (adv_is (t := t) (by simp) (by simp [setT, advT, HNX.out]) (fun i hi => by simp [setT, hi]) (by simp [setT, HH2.out]))⟩⟩
        · have HNL := hnl
          have e1 : (k == 1) = false := by simpa using hnl.out.1
          have e3 : (k == 3) = false := by simpa using hnl.out.2.1
          have e4 : (k == 4) = false := by simpa using hnl.out.2.2.1
          have e5 : (k == 5) = false := by simpa using hnl.out.2.2.2.1
          have e6 : (k == 6) = false := by simpa using hnl.out.2.2.2.2
          clear hnl
          go_wp2_with (go_at_call 114; refine halt_ ?_)
          refine Halt_.go ?_
          refine hnu.mono ?_
          rintro e w3 ⟨rfl, hb3⟩
          have HI3 := Lib.hid (HI2.out.kept hb3)
          have HX3 := Lib.hid (HX2.out.below hb3)
          have HB3 := Lib.hid (HB2.out.trans (hb3.mono hz2))
          have hz3 : base ≤ w3.heap.size := Nat.le_trans hz2 hb3.size
          clear hb3 HI2 HX2 HB2 hz2 hnu hcl HLK c0 c1 c2 c3 c4 c5 hg
          obtain rfl | rfl : nb = false ∨ nb = true := by cases nb <;> simp
          · have hpe : pe = 232 := by rw [HK3.out, if_pos rfl]
            go_wp2
            go_ret
            exact ⟨by rw [hpe]; rfl, HB3.out, fun h => by omega⟩
          have hbw3 := HI3.out.blk.lt.2
          have how := HOB.out w3 HI3.out hbw3
          obtain ⟨hg, c0, c1, c2, c3, c4, c5⟩ := HX3.out
          have d1 := HI3.out.cells.how t h8
          go_wp2_with (go_at_call 115; refine halt_ ?_)
          refine Halt_.go ?_
          refine how.mono ?_
          rintro e w4 ⟨rfl, hb4⟩
          have HI4 := Lib.hid (HI3.out.kept hb4)
          have HX4 := Lib.hid (HX3.out.below hb4)
          have HB4 := Lib.hid (HB3.out.trans (hb4.mono hz3))
          have hz4 : base ≤ w4.heap.size := Nat.le_trans hz3 hb4.size
          clear hb4 HI3 HX3 HB3 hz3 how HOB c0 c1 c2 c3 c4 c5 hg d1 hbw3
          obtain rfl | rfl : ob = false ∨ ob = true := by cases ob <;> simp
          · have hpe : pe = 233 := by rw [HK3.out, if_neg (by simp), if_pos rfl]
            go_wp2
            go_ret
            exact ⟨by rw [hpe]; rfl, HB4.out, fun h => by omega⟩
          have hpe : pe = 0 := by rw [HK3.out, if_neg (by simp), if_neg (by simp)]
          have HPE := Lib.hid hpe
          obtain ⟨hg, c0, c1, c2, c3, c4, c5⟩ := HX4.out
          have d1 := HI4.out.cells.how t h8
          have f1 := (HI4.out.blk.cell (j := t * 3) (by omega)).2
          have d2 := HI4.out.cells.snap t h8
          have f2 := (HI4.out.blk.cell (j := t * 3 + 1) (by omega)).2
          have d3 := HI4.out.cells.wr t h8
          have f3 := (HI4.out.blk.cell (j := t * 3 + 2) (by omega)).2
          have d4 := HI4.out.cells.num
          have f4 := (HI4.out.blk.cell (j := 24) (by omega)).2
          clear hpe HK3 HX4 hneg
          go_wp2
          go_ret
          have hI := (HI4.out.how' h8 nx).more (Nat.le_succ m)
          have hn := HNL.out
          exact ⟨by rw [HPE.out]; rfl, HB4.out.setCell hb.1 _, fun _ => ⟨_, _, hI.eq (adv_is (t := t) (by simp) (by simp [setT, advT, HNX.out, hn.1, hn.2.1, hn.2.2.1]) (fun i hi => by simp [setT, hi]) (by simp [setT, hn.2.2.2.2]))⟩⟩
  · have hd : decide (Fm ⟨t, k, a, x, o, er⟩) = false := decide_eq_false hF
    have hpe : pe = 201 := by rw [← HP.out]; simp [putE, hF]
    have hfo := fun w => formed_any ⟨t, k, a, x, o, er⟩ w HE.out
    rw [hd] at hfo
    go_enter Try.func89, Try.ntmps89
    go_wp2_with (go_at_call 111; refine halt_ ?_)
    refine Halt_.go ?_
    refine (hfo _).mono ?_
    rintro e w1 ⟨rfl, hb1⟩
    have HB1 := Lib.hid ((HB.out.trans (hb1.mono HB.out.size)).mono hbase)
    clear hfo hb1
    go_wp2
    go_ret
    exact ⟨by rw [hpe]; rfl, HB1.out, fun h => by omega⟩
end Go.Proofs.Ytjifpjfinffamaa
end
