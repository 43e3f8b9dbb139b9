/- FreeNested's block, call 1. -/
import Derived.Test.YtomcobcmjocapaaGreatDoorJJ
namespace Go.Proofs.YtomcobcmjocapaaGreatDoor
open Go.RowKit Go.MuLone
/-- what is got, of the first k, out of words ws -/
def gR (X : NX) (ws : List Int) (k : Nat) : List (Int × Int) := (X.gets.take k).map fun x => (((x % X.first.length : Nat) : Int), ws.getD (x % X.first.length) 0)
theorem gR_succ (X : NX) (ws : List Int) {k y j : Nat} {v : Int} (hy : X.gets[k]? = some y) (hj : j = y % X.first.length) (hv : ws[j]? = some v) : gR X ws (k + 1) = gR X ws k ++ [((j : Int), v)] := by
  have hd : ws.getD j 0 = v := by simp [List.getD, hv]
  unfold gR
  rw [List.take_add_one, hy, List.map_append, ← hd, hj]
  rfl
/-- what the block, called first, leaves -/
def BQ1 (w : World) (X : NX) (lo b cb g sc : Nat) (r E : Int) (w' : World) : Prop :=
  Below X.H w w' ∧ EnvR w' X 1 true ∧ ∃ ch' I',
    (X.how = 2 ∧ r = 390 ∧ E = 0 ∧ MemR w' (X.H + 3) X.m cb g sc ch' (X.first.set X.a X.xw) 2 1 1 true ∧ TxR w' lo b X.m I' 0 (gR X X.first X.gets.length) none 0 0) ∨
    (X.how = 1 ∧ r = 390 ∧ E = 0 ∧ MemR w' (X.H + 3) X.m cb g sc ch' (X.first.set X.a X.xw) 2 0 0 false ∧ TxR w' lo b X.m I' 0 (gR X X.first X.gets.length) none 0 0) ∨
    (X.how ≠ 2 ∧ X.how ≠ 1 ∧ X.chg = true ∧ r = 0 ∧ E = 8 ∧ MemR w' (X.H + 3) X.m cb g sc ch' (X.first.set X.a X.xw) 2 0 0 false ∧ TxR w' lo b X.m I' 0 (gR X X.first X.gets.length) none 8 0) ∨
    (X.how ≠ 2 ∧ X.how ≠ 1 ∧ r = 0 ∧ E = 0 ∧ MemR w' (X.H + 3) X.m cb g sc ch' (X.first.set X.a X.xw) 2 0 0 false ∧ ∃ sn' R', TxR w' lo b X.m I' sn' R' (some (((0 : Nat) : Int), X.xp)) 0 0 ∧ othB R' (X.first.set X.a X.xw) = X.chg ∧ (sn' = 2 → X.chg = false) ∧ R'.length < 1000 ∧ ∀ p ∈ R', ∃ a : Nat, p.1 = a ∧ a < X.first.length)

section
variable {X : NX} {lo b cb g sc ch : Nat} {I : TI}
set_option maxRecDepth 100000 in
set_option maxHeartbeats 12800000 in
theorem blk7_1 (w : World) (he : EnvR w X 0 true) (hm : MemR w (X.H + 3) X.m cb g sc ch X.first 0 0 0 false) (ht : TxR w lo b X.m I 0 [] none 0 0) (hl : Lies X.K X.m cb g sc) (hlo : X.K + 7 ≤ lo) (hd : Deb w) (h1 : 1 < X.H)
    (hn : 0 < X.first.length ∧ X.first.length ≤ 20) (ha : X.a < X.first.length) (hg : X.gets.length ≤ 20) (hchg : X.chg = othB (gR X X.first X.gets.length) (X.first.set X.a X.xw)) :
    Calls Tryz.prog 7 #[IV b, .pointer (some ⟨X.K + 4, 0, none⟩), .pointer (some ⟨X.H + 1, 0, none⟩), .pointer (some ⟨X.H + 2, 0, none⟩), .pointer (some ⟨X.H, 0, none⟩), .pointer (some ⟨X.K + 1, 0, none⟩), .pointer (some ⟨X.K + 5, 0, none⟩), .pointer (some ⟨X.K, 0, none⟩), .pointer (some ⟨X.K + 3, 0, none⟩), .pointer (some ⟨X.K + 2, 0, none⟩)] w fun e w' => ∃ r E, e = .returned (.int .i64 r) ∧ BQ1 w X lo b cb g sc r E w' := by
  have hsm : X.first.length ≤ 65536 := by omega
  have cc := he.c
  have HE := Lib.hid he
  have HM := Lib.hid hm
  have HT := Lib.hid ht
  have HD := Lib.hid hd
  have hK := he.hk
  unfold IV
  obtain ⟨cc, zc⟩ := cc
  clear he hm ht hd
  go_enter Tryz.func7, Tryz.ntmps7
  go_wp2
  obtain ⟨w1, hw1⟩ : ∃ w1, w1 = w.setCell ⟨X.K + 4, 0, none⟩ (.int .i64 1) := ⟨_, rfl⟩
  rw [← hw1]
  have hx1 : Ex w w1 (EnvK X) := by rw [hw1]; exact env_setC HE.out _
  have he1 : EnvR w1 X 1 true := by rw [hw1]; exact HE.out.setC _
  have hm1 := mem_env HM.out HE.out hl hx1
  have ht1 := tx_env HT.out HE.out hlo hx1
  have hb1 := env_blw HE.out hx1
  have HE1 := Lib.hid he1
  have HM1 := Lib.hid hm1
  have HT1 := Lib.hid ht1
  have HB1 := Lib.hid hb1
  clear hx1 he1 hm1 ht1 hb1 hw1 HE HM HT cc zc
  obtain ⟨n, hnn⟩ : ∃ n, n = X.first.length := ⟨_, rfl⟩
  have HNN := Lib.hid hnn
  have hwl : X.first.length = n := by simp [hnn]
  rw [← hnn] at hn ha hsm
  clear hnn
  go_loopw [12] (fun i wr => ∃ (k : Nat) (I' : TI), k ≤ X.gets.length ∧ i = .int .i64 k ∧ Hid (TxR wr lo b X.m I' 0 (gR X X.first k) none 0 0) ∧ Hid (MemR wr (X.H + 3) X.m cb g sc ch X.first 0 0 0 false) ∧ Hid (EnvR wr X 1 true) ∧ Hid (Below X.H w wr)) (fun i _ => X.gets.length - (intOf i).toNat)
  case atStart => exact ⟨0, I, Nat.zero_le _, rfl, HT1, HM1, HE1, HB1⟩
  case round =>
    obtain ⟨k, I', hk, rfl, HTr, HMr, HEr, HBr⟩ := hrel
    clear HT1 HM1 HE1 HB1
    have x0 : wr.cell? ⟨X.H + 1, 0, none⟩ = some (.slice X.B X.gets.length X.d) := HEr.out.x 0 (by omega)
    have s0 : wr.cell? ⟨X.H + 2, 0, none⟩ = some (.int .u64 n) := by rw [HNN.out]; exact HEr.out.s
    have f0 : wr.cell? ⟨X.H, 0, none⟩ = some (.slice X.A n X.c) := by rw [HNN.out]; exact HEr.out.f
    have a0 := HEr.out.a
    have k0 := HEr.out.c.1
    by_cases hlt : k < X.gets.length
    · obtain ⟨gb, go, gx, hBe, hgb, HGX, cgx⟩ := HEr.out.rg.at_ (Below.refl _ wr) (show k < (X.gets.map fun (n : Nat) => (n : Int)).length by simpa using hlt)
      obtain ⟨y, hy⟩ : ∃ y : Nat, gx = (y : Int) ∧ X.gets[k]? = some y := by
        have h := HGX.out
        rw [List.getElem?_map, List.getElem?_eq_getElem hlt] at h
        injection h with h
        exact ⟨X.gets[k], h.symm, List.getElem?_eq_getElem hlt⟩
      obtain ⟨rfl, hy⟩ := hy
      have HY := Lib.hid hy
      have hj : y % n < n := Nat.mod_lt _ hn.1
      obtain ⟨j, hjj⟩ : ∃ j, j = y % n := ⟨_, rfl⟩
      rw [← hjj] at hj
      obtain ⟨fb, fo, v, hAe, hfb, HV, cv⟩ := HEr.out.rf.at_ (Below.refl _ wr) (show j < X.first.length by rw [← HNN.out]; exact hj)
      rw [hBe] at x0
      rw [hAe] at f0
      have i1 : (0 : Int) ≤ (k : Int) := by omega
      have i2 : (k : Int) < (X.gets.length : Int) := by omega
      have i3 : (0 : Int) ≤ (j : Int) := by omega
      have i4 : (j : Int) < (n : Int) := by omega
      have i5 : ¬ (n : Int) = 0 := by omega
      have i6 : Int.tmod (y : Int) (n : Int) = (j : Int) := by rw [hjj]; rfl
      have i7 : (y : Int) % (n : Int) = (j : Int) := by rw [hjj]; rfl
      have HJ := Lib.hid hjj
      have HAB := Lib.hid (And.intro hBe (And.intro hAe (And.intro hgb hfb)))
      clear hy hjj hBe hAe hgb hfb HGX
      go_wp2
      go_quiet (fail)
      have HTq := Lib.hid (HTr.out.drewN nq)
      have HMq := Lib.hid (HMr.out.drewN nq)
      have HEq := Lib.hid (HEr.out.drewN nq)
      have HBq := Lib.hid (bdrewN HBr.out nq)
      replace f0 : (wr.drewN nq).cell? ⟨X.H, 0, none⟩ = some (.slice (some ⟨fb, fo, none⟩) n X.c) := f0
      replace a0 : (wr.drewN nq).cell? ⟨X.K + 1, 0, none⟩ = some (.int .u64 X.a) := a0
      replace k0 : (wr.drewN nq).cell? ⟨X.K + 4, 0, none⟩ = some (.int .i64 1) := k0
      replace cv : (wr.drewN nq).cell? ⟨fb, fo + j, none⟩ = some (.int .u64 v) := cv
      have x2 : (wr.drewN nq).cell? ⟨X.H + 1, 2, none⟩ = some (.int .u64 X.xw) := HEr.out.x 2 (by omega)
      clear HTr HMr HEr HBr x0 s0 cgx
      generalize wr.drewN nq = w2 at *
      have hD2 : Deb w2 := HD.out.below HBq.out h1
      have hge : X.first[j]? = some v := by exact HV.out
      have hRb : ∀ p ∈ gR X X.first k, ∃ a : Nat, p.1 = a ∧ a < X.first.length := by
        intro p hp
        obtain ⟨x, _, rfl⟩ := List.mem_map.1 hp
        exact ⟨_, rfl, by rw [hwl, HNN.out]; exact Nat.mod_lt _ (by have := hn.1; rw [HNN.out] at this; exact this)⟩
      have hRl : (gR X X.first k).length < 1000 := by simp [gR]; omega
      have HG := Lib.hid (txGet w2 HMq.out HTq.out (hl.up (by omega)) hD2 (by rw [hwl]; exact hsm) hRl hRb (by omega) j v hge)
      have HGE := Lib.hid hge
      clear hD2 hge hRb hRl
      go_wp2_with (go_at_call 112; refine halt_ ?_)
      refine Halt_.go ?_
      refine HG.out.mono ?_
      rintro e w3 ⟨hcase, hm3, hx3⟩
      rcases hcase with ⟨hne, _⟩ | ⟨_, rfl, I3, ht3⟩
      · exact absurd rfl hne
      have he3 := env_tx HEq.out HTq.out hlo hx3
      have hb3 := HBq.out.trans ((HTq.out.blw hx3).mono (by omega))
      have H8 := Lib.hid (num8 w3 0)
      obtain ⟨f5, z5⟩ := he3.fi
      have HE3 := Lib.hid he3
      have HM3 := Lib.hid hm3
      have HT3 := Lib.hid ht3
      have HB3 := Lib.hid hb3
      clear hm3 hx3 he3 ht3 hb3 HG HTq HMq HEq HBq f0 a0 k0 cv x2
      go_wp2_with (go_at_call 8; refine halt_ ?_)
      refine Halt_.go ?_
      refine H8.out.mono ?_
      rintro e w4 ⟨rfl, rfl⟩
      clear H8
      go_wp2
      have hx5 := env_setF HE3.out true
      have hsucc := gR_succ X X.first HY.out (show j = y % X.first.length by rw [← HNN.out]; exact HJ.out) HGE.out
      have ht5 := tx_env HT3.out HE3.out hlo hx5
      rw [← hsucc] at ht5
      exact ⟨⟨k + 1, I3, by omega, by simp, ht5, mem_env HM3.out HE3.out hl hx5, HE3.out.setF true, HB3.out.trans (env_blw HE3.out hx5)⟩, by simp [intOf]; omega⟩
    · have hkk : k = X.gets.length := by omega
      subst hkk
      have hDr : Deb wr := HD.out.below HBr.out h1
      have hszr := HEr.out.size
      have HST := Lib.hid (memStore wr HMr.out hDr (by omega) (by rw [hwl]; exact hsm) (.inl rfl) X.a X.xw (by rw [hwl]; exact ha))
      have m0 := HEr.out.m
      have x2 : wr.cell? ⟨X.H + 1, 2, none⟩ = some (.int .u64 X.xw) := HEr.out.x 2 (by omega)
      have f5 := HEr.out.fi.1
      clear hDr s0 f0
      go_wp2_with (go_at_call 9; refine halt_ ?_)
      refine Halt_.go ?_
      refine HST.out.mono ?_
      rintro e w2 ⟨rfl, ch2, hm2, hx2⟩
      obtain ⟨he2, hb2⟩ := env_mem HEr.out HMr.out hl hx2 (fun k hk => hk.elim .inl fun h => h.elim (fun h => .inr (.inl h)) fun h => .inr (.inr (.inr h)))
      have ht2 := tx_mem HTr.out HMr.out (hl.up (by omega)) hx2 (fun k hk => hk.elim .inl fun h => h.elim (fun h => .inr (.inl h)) fun h => .inr (.inr (.inr h)))
      replace hm2 : MemR w2 (X.H + 3) X.m cb g sc ch2 (X.first.set X.a X.xw) 2 0 0 false := hm2
      have H8 := Lib.hid (num8 w2 0)
      obtain ⟨f5', z5⟩ := he2.fi
      have h3 := he2.h
      have HE2 := Lib.hid he2
      have HM2 := Lib.hid hm2
      have HT2 := Lib.hid ht2
      have HB2 := Lib.hid (HBr.out.trans hb2)
      clear he2 hm2 ht2 hb2 hx2 HST HTr HMr HEr HBr x0 m0 x2 f5 a0 k0
      go_wp2_with (go_at_call 8; refine halt_ ?_)
      refine Halt_.go ?_
      refine H8.out.mono ?_
      rintro e w3 ⟨rfl, rfl⟩
      clear H8
      have m0 := HE2.out.m
      have a0 := HE2.out.a
      have g0 := HE2.out.g
      have k0 := HE2.out.c.1
      have x2 : w3.cell? ⟨X.H + 1, 2, none⟩ = some (.int .u64 X.xw) := HE2.out.x 2 (by omega)
      have x3 : w3.cell? ⟨X.H + 1, 3, none⟩ = some (.bool X.more) := HE2.out.x 3 (by omega)
      have x4 : w3.cell? ⟨X.H + 1, 4, none⟩ = some (.int .u64 X.xp) := HE2.out.x 4 (by omega)
      have n1 : ¬ X.H + 1 = X.K + 5 := by omega
      obtain ⟨w4, hw4⟩ : ∃ w4, w4 = w3.setCell ⟨X.K + 5, 0, none⟩ (.bool true) := ⟨_, rfl⟩
      have hx4 : Ex w3 w4 (EnvK X) := by rw [hw4]; exact env_setF HE2.out _
      have he4 : EnvR w4 X 1 true := by rw [hw4]; exact HE2.out.setF _
      have HE4 := Lib.hid he4
      have HM4 := Lib.hid (mem_env HM2.out HE2.out hl hx4)
      have HT4 := Lib.hid (tx_env HT2.out HE2.out hlo hx4)
      have HB4 := Lib.hid (HB2.out.trans (env_blw HE2.out hx4))
      have HW4 := Lib.hid hw4
      clear hw4 hx4 he4 HE2 HM2 HT2 HB2
      by_cases e2 : X.how = 2
      · rw [e2] at h3
        have HSP := Lib.hid (memStop w4 HM4.out)
        have HE2 := Lib.hid e2
        clear e2 x2 x3 x4 a0 g0 k0
        go_wp2_with (go_at_call 10; refine halt_ ?_)
        refine Halt_.go ?_
        rw [← HW4.out]
        refine HSP.out.mono ?_
        rintro e w5 ⟨rfl, hm5, hx5⟩
        obtain ⟨he5, hb5⟩ := env_mem HE4.out HM4.out hl hx5 (fun k hk => hk.elim .inl fun h => .inr (.inr (.inl h)))
        have ht5 := tx_mem HT4.out HM4.out (hl.up (by omega)) hx5 (fun k hk => hk.elim .inl fun h => .inr (.inr (.inl h)))
        obtain ⟨f5, y5⟩ := he5.fi
        have HE5 := Lib.hid he5
        have HM5 := Lib.hid hm5
        have HT5 := Lib.hid ht5
        have HB5 := Lib.hid (HB4.out.trans hb5)
        clear he5 hm5 ht5 hb5 hx5 HSP HE4 HM4 HT4 HB4 HW4 f5' z5 h3 m0
        go_wp2
        go_ret
        have hx6 := env_setF HE5.out true
        exact ⟨390, 0, rfl, HB5.out.trans (env_blw HE5.out hx6), HE5.out.setF true, ch2, I', .inl ⟨HE2.out, rfl, rfl, mem_env HM5.out HE5.out hl hx6, tx_env HT5.out HE5.out hlo hx6⟩⟩
      · by_cases e1 : X.how = 1
        · rw [e1] at h3
          have HE1 := Lib.hid e1
          clear e1 e2 x2 x3 x4 a0 g0 k0 m0
          go_wp2
          go_ret
          rw [← HW4.out]
          exact ⟨390, 0, rfl, HB4.out, HE4.out, ch2, I', .inr (.inl ⟨HE1.out, rfl, rfl, HM4.out, HT4.out⟩)⟩
        · have b1 : (X.how == 1) = false := by simpa using e1
          have b2 : (X.how == 2) = false := by simpa using e2
          have HEE := Lib.hid (And.intro e2 e1)
          clear e1 e2
          have hD4 : Deb w4 := HD.out.below HB4.out h1
          have hwl2 : (X.first.set X.a X.xw).length = n := by simp [hwl]
          have hwl3 : (X.first.set X.a X.xw).length ≤ 65536 := by rw [hwl2]; exact hsm
          have hRb : ∀ p ∈ gR X X.first X.gets.length, ∃ a : Nat, p.1 = a ∧ a < X.first.length := by
            intro p hp
            obtain ⟨x, _, rfl⟩ := List.mem_map.1 hp
            exact ⟨_, rfl, Nat.mod_lt _ (by have := hn.1; rw [HNN.out] at this; exact this)⟩
          have hRb2 : ∀ p ∈ gR X X.first X.gets.length, ∃ a : Nat, p.1 = a ∧ a < (X.first.set X.a X.xw).length := by
            intro p hp
            rw [List.length_set]
            exact hRb p hp
          have hRl : (gR X X.first X.gets.length).length ≤ 20 := by simpa [gR] using hg
          have HRB := Lib.hid hRb
          have HRL := Lib.hid hRl
          have HCH := Lib.hid hchg
          by_cases hmo : X.more = false
          · rw [hmo] at x3
            have HP := Lib.hid (txPut w4 HM4.out HT4.out hD4 hwl3 0 X.xp (by omega))
            clear hD4 hwl2 hwl3 hRb hRb2 hRl hmo hchg x2 a0 g0 k0 m0
            go_wp2_with (go_at_call 113; refine halt_ ?_)
            refine Halt_.go ?_
            rw [← HW4.out]
            refine HP.out.mono ?_
            rintro e w5 ⟨rfl, I5, ht5, hx5⟩
            have HE5 := Lib.hid (env_tx HE4.out HT4.out hlo hx5)
            have HM5 := Lib.hid (HM4.out.tx (hl.up (by omega)) HT4.out hx5)
            have HB5 := Lib.hid (HB4.out.trans ((HT4.out.blw hx5).mono (by omega)))
            have HT5 := Lib.hid ht5
            clear ht5 hx5 HP HE4 HM4 HT4 HB4 HW4 f5' z5 h3 x3 x4
            go_wp2
            go_ret
            exact ⟨0, 0, rfl, HB5.out, HE5.out, ch2, I5, .inr (.inr (.inr ⟨HEE.out.1, HEE.out.2, rfl, rfl, HM5.out, 0, _, HT5.out, HCH.out.symm, fun h => by omega, by have := HRL.out; omega, HRB.out⟩))⟩
          · have hmt : X.more = true := by simpa using hmo
            rw [hmt] at x3
            have hge : (X.first.set X.a X.xw)[X.a]? = some X.xw := by rw [List.getElem?_set_self (by rw [← HNN.out]; exact ha)]
            have HG := Lib.hid (txGet w4 HM4.out HT4.out (hl.up (by omega)) hD4 hwl3 (by omega) hRb2 (by omega) X.a X.xw hge)
            have HWL := Lib.hid hwl3
            clear hD4 hwl2 hwl3 hRb hRb2 hRl hmo hmt hchg hge m0 x2 x4 g0
            go_wp2_with (go_at_call 112; refine halt_ ?_)
            refine Halt_.go ?_
            rw [← HW4.out]
            refine HG.out.mono ?_
            rintro e w5 ⟨hcase, hm5, hx5⟩
            have he5 := env_tx HE4.out HT4.out hlo hx5
            have hb5 := HB4.out.trans ((HT4.out.blw hx5).mono (by omega))
            have HE5 := Lib.hid he5
            have HM5 := Lib.hid hm5
            have HB5 := Lib.hid hb5
            clear hm5 hx5 hb5 HG HE4 HM4 HT4 HB4 HW4 f5' z5 h3 x3 a0 k0
            have k0 := he5.c.1
            have a0 := he5.a
            have g0 := he5.g
            have x2 : w5.cell? ⟨X.H + 1, 2, none⟩ = some (.int .u64 X.xw) := he5.x 2 (by omega)
            have x4 : w5.cell? ⟨X.H + 1, 4, none⟩ = some (.int .u64 X.xp) := he5.x 4 (by omega)
            obtain ⟨f5, y5⟩ := he5.fi
            clear he5
            rcases hcase with ⟨_, hoth, rfl, ht5⟩ | ⟨hv, rfl, I5, ht5⟩
            · have hct : X.chg = true := HCH.out.trans hoth
              rw [hct] at g0
              have HCT := Lib.hid hct
              have HGE := Lib.hid (txGetErr w5 HM5.out ht5 HWL.out X.a (by rw [List.length_set, ← HNN.out]; exact ha) (by omega))
              have HPE := Lib.hid (txPutErr w5 HM5.out ht5 HWL.out 0 1 (by rw [List.length_set, ← HNN.out]; exact hn.1) (by omega))
              have H8 := Lib.hid (num8 w5 8)
              have HT5 := Lib.hid ht5
              clear hct hoth ht5 x2 x4
              go_wp2_with (go_at_call 112; refine halt_ ?_)
              refine Halt_.go ?_
              refine HGE.out.mono ?_
              rintro e w6 ⟨rfl, rfl⟩
              go_wp2_with (go_at_call 8; refine halt_ ?_)
              refine Halt_.go ?_
              refine H8.out.mono ?_
              rintro e w6 ⟨rfl, rfl⟩
              go_wp2_with (go_at_call 8; refine halt_ ?_)
              refine Halt_.go ?_
              refine H8.out.mono ?_
              rintro e w6 ⟨rfl, rfl⟩
              go_wp2_with (go_at_call 113; refine halt_ ?_)
              refine Halt_.go ?_
              refine HPE.out.mono ?_
              rintro e w6 ⟨rfl, rfl⟩
              go_wp2_with (go_at_call 8; refine halt_ ?_)
              refine Halt_.go ?_
              refine H8.out.mono ?_
              rintro e w6 ⟨rfl, rfl⟩
              clear HGE HPE H8 k0 a0 g0
              go_wp2
              go_ret
              have hx6 := env_setF HE5.out true
              exact ⟨0, 8, rfl, HB5.out.trans (env_blw HE5.out hx6), HE5.out.setF true, ch2, I', .inr (.inr (.inl ⟨HEE.out.1, HEE.out.2, HCT.out, rfl, rfl, mem_env HM5.out HE5.out hl hx6, tx_env HT5.out HE5.out hlo hx6⟩))⟩
            · have hoth : othB (gR X X.first X.gets.length) (X.first.set X.a X.xw) = false := hv.elim (fun h => absurd h (by omega)) id
              have hct : X.chg = false := HCH.out.trans hoth
              rw [hct] at g0
              have hx6 := env_setF HE5.out true
              obtain ⟨w6, hw6⟩ : ∃ w6, w6 = w5.setCell ⟨X.K + 5, 0, none⟩ (.bool true) := ⟨_, rfl⟩
              rw [← hw6] at hx6
              have he6 : EnvR w6 X 1 true := by rw [hw6]; exact HE5.out.setF true
              have hm6 := mem_env HM5.out HE5.out hl hx6
              have ht6 := tx_env ht5 HE5.out hlo hx6
              have hb6 := HB5.out.trans (env_blw HE5.out hx6)
              have HP := Lib.hid (txPut w6 hm6 ht6 (HD.out.below hb6 h1) HWL.out 0 X.xp (by rw [List.length_set, ← HNN.out]; exact hn.1))
              have HOT : Hid (othB (gR X X.first X.gets.length ++ [((X.a : Int), X.xw)]) (X.first.set X.a X.xw) = X.chg) := by
                have e1 : othB (gR X X.first X.gets.length ++ [((X.a : Int), X.xw)]) (X.first.set X.a X.xw) = (othB (gR X X.first X.gets.length) (X.first.set X.a X.xw) || ((X.first.set X.a X.xw).getD X.a 0 != X.xw)) := by
                  unfold othB
                  rw [List.any_append]
                  simp
                have e2 : (X.first.set X.a X.xw).getD X.a 0 = X.xw := by
                  simp [List.getD, List.getElem?_set_self (show X.a < X.first.length by rw [← HNN.out]; exact ha)]
                show _ = _
                rw [e1, hoth, e2, hct]
                simp
              have H8 := Lib.hid (num8 w5 0)
              have HE6 := Lib.hid he6
              have HM6 := Lib.hid hm6
              have HT6 := Lib.hid ht6
              have HB6 := Lib.hid hb6
              have HW6 := Lib.hid hw6
              have HCF := Lib.hid hct
              clear hct hoth ht5 hv hx6 hw6 he6 hm6 ht6 hb6
              go_wp2_with (go_at_call 8; refine halt_ ?_)
              refine Halt_.go ?_
              refine H8.out.mono ?_
              rintro e w7 ⟨rfl, rfl⟩
              go_wp2_with (go_at_call 113; refine halt_ ?_)
              refine Halt_.go ?_
              rw [← HW6.out]
              refine HP.out.mono ?_
              rintro e w8 ⟨rfl, I8, ht8, hx8⟩
              have HE8 := Lib.hid (env_tx HE6.out HT6.out hlo hx8)
              have HM8 := Lib.hid (HM6.out.tx (hl.up (by omega)) HT6.out hx8)
              have HB8 := Lib.hid (HB6.out.trans ((HT6.out.blw hx8).mono (by omega)))
              have HT8 := Lib.hid ht8
              clear ht8 hx8 HP HE6 HM6 HT6 HB6 HW6 H8 k0 a0 g0 x2 x4 f5 y5
              go_wp2
              go_ret
              refine ⟨0, 0, rfl, HB8.out, HE8.out, ch2, I8, .inr (.inr (.inr ⟨HEE.out.1, HEE.out.2, rfl, rfl, HM8.out, 2, _, HT8.out, HOT.out, fun _ => HCF.out, by have := HRL.out; simp only [List.length_append, List.length_singleton]; omega, fun p hp => ?_⟩))⟩
              rcases List.mem_append.1 hp with hp | hp
              · exact HRB.out p hp
              · obtain rfl := List.mem_singleton.1 hp
                exact ⟨X.a, rfl, by rw [← HNN.out]; exact ha⟩
end
end Go.Proofs.YtomcobcmjocapaaGreatDoor
