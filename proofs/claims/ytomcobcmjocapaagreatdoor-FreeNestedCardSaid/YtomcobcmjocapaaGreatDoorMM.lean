/- Either, of FreeNested's block. -/
import Derived.Test.YtomcobcmjocapaaGreatDoorLL
namespace Go.Proofs.YtomcobcmjocapaaGreatDoor
open Go.RowKit Go.MuLone
/-- what Either ends in -/
def EQ (w : World) (X : NX) (cb g sc : Nat) (e : Ending) (w' : World) : Prop :=
  Below X.H w w' ∧ ∃ ch',
    (X.how = 2 ∧ e = .returned (.tuple #[.int .u64 0, .int .i64 391]) ∧ EnvR w' X 1 true ∧ MemR w' (X.H + 3) X.m cb g sc ch' (X.first.set X.a X.xw) 2 1 1 true) ∨
    (X.how ≠ 2 ∧ e = .returned (.tuple #[.int .u64 2, .int .i64 0]) ∧ EnvR w' X (if X.chg = true then 2 else 1) true ∧ MemR w' (X.H + 3) X.m cb g sc ch' ((X.first.set X.a X.xw).set 0 X.xp) 4 0 0 false)
section
variable {X : NX} {cb g sc ch : Nat}
set_option maxRecDepth 100000 in
set_option maxHeartbeats 12800000 in
theorem either7 (w : World) (he : EnvR w X 0 true) (hz : X.z = .func (.func 7) #[] #[.pointer (some ⟨X.K + 4, 0, none⟩), .pointer (some ⟨X.H + 1, 0, none⟩), .pointer (some ⟨X.H + 2, 0, none⟩), .pointer (some ⟨X.H, 0, none⟩), .pointer (some ⟨X.K + 1, 0, none⟩), .pointer (some ⟨X.K + 5, 0, none⟩), .pointer (some ⟨X.K, 0, none⟩), .pointer (some ⟨X.K + 3, 0, none⟩), .pointer (some ⟨X.K + 2, 0, none⟩)]) (hm : MemR w (X.H + 3) X.m cb g sc ch X.first 0 0 0 false) (hl : Lies X.K X.m cb g sc) (hd : Deb w) (h1 : 1 < X.H)
    (hn : 0 < X.first.length ∧ X.first.length ≤ 20) (ha : X.a < X.first.length) (hg : X.gets.length ≤ 20) (hchg : X.chg = othB (gR X X.first X.gets.length) (X.first.set X.a X.xw)) (hh1 : X.how = 1 → X.chg = true) (c : Nat) :
    Calls Tryz.prog 15 #[.pointer (some ⟨X.m, 0, none⟩), .slice (some ⟨X.K + 6, 0, none⟩) 1 c] w (EQ w X cb g sc) := by
  have HN := Lib.hid (memNone w hm)
  have HI := Lib.hid (isSet w (hm.c (i := 2) (by omega)).1)
  have HB := Lib.hid (txBegin w hm (by omega))
  have HM := Lib.hid hm
  have HE := Lib.hid he
  have HD := Lib.hid hd
  have HCH := Lib.hid hchg
  have HH1 := Lib.hid hh1
  have hsz := he.size
  have hK := he.hk
  clear hm he hd hchg hh1
  go_enter Tryz.func15, Tryz.ntmps15
  go_wp2_with (go_at_call 19; refine halt_ ?_)
  refine Halt_.go ?_
  refine HN.out.mono ?_
  rintro e w0 ⟨rfl, rfl⟩
  go_wp2_with (go_at_call 28; refine halt_ ?_)
  refine Halt_.go ?_
  refine HI.out.mono ?_
  rintro e w ⟨rfl, rfl⟩
  clear HN HI
  go_wp2
  refine wp_loop_rounds 2 ?_
  rw [rounds_succ]
  go_wp2_with (go_at_call 29; refine halt_ ?_)
  refine Halt_.go ?_
  refine HB.out.mono ?_
  rintro e w1 ⟨I, rfl, ht1, hb1⟩
  have he1 : EnvR w1 X 0 true := HE.out.kept (fun k hk => hb1.block k (by have := (env_lt HE.out hk).2; omega)) (fun k hk => hb1.block k (by omega))
  have hm1 := HM.out.ex (Ex.of_below hb1) (S := fun _ => False) id id id id id
  have HON := Lib.hid (one7 w1 ht1 (X.K + 4) (X.H + 1) (X.H + 2) X.H (X.K + 1) (X.K + 5) X.K (X.K + 3) (X.K + 2) (X.K + 6) c (by rw [← hz]; exact he1.z) (BQ1 w1 X w.heap.size w.heap.size cb g sc) (blk7_1 w1 he1 hm1 ht1 hl (by omega) (HD.out.below hb1 (by omega)) h1 hn ha hg HCH.out)
    (by rintro r E w' ⟨_, _, ch', I', h | h | h | h⟩
        · obtain ⟨_, _, rfl, _, ht'⟩ := h; exact ⟨_, _, _, _, _, ht'⟩
        · obtain ⟨_, _, rfl, _, ht'⟩ := h; exact ⟨_, _, _, _, _, ht'⟩
        · obtain ⟨_, _, _, _, rfl, _, ht'⟩ := h; exact ⟨_, _, _, _, _, ht'⟩
        · obtain ⟨_, _, _, rfl, _, sn', R', ht', _⟩ := h; exact ⟨_, _, _, _, _, ht'⟩))
  have HB1 := Lib.hid (hb1.mono (show X.H ≤ w.heap.size by omega))
  clear ht1 hb1 he1 hm1 HB HM HE
  go_wp2_with (go_at_call 30; refine halt_ ?_)
  refine Halt_.go ?_
  refine HON.out.mono ?_
  rintro e w3 ⟨r, E, w2, ⟨hb2, he2, ch2, I2, hcase⟩, rfl, hw3⟩
  have hb2' := HB1.out.trans hb2
  have HB2 := Lib.hid hb2'
  have HE2 := Lib.hid he2
  have HW3 := Lib.hid hw3
  have hx3 : ∀ I', Ex w2 w3 (TxS w.heap.size I') := fun I' => by rw [hw3]; exact ((Ex.refl _ _).set _ _ fun _ => .inl rfl).drew
  have HX3 := Lib.hid hx3
  clear hb2 he2 hw3 hb2' hx3 HON HB1
  rcases hcase with ⟨e2, rfl, rfl, hm2, ht2⟩ | ⟨e1, rfl, rfl, hm2, ht2⟩ | ⟨e2, e1, hct, rfl, rfl, hm2, ht2⟩ | ⟨e2, e1, rfl, rfl, hm2, sn', R', ht2, hoth, hsn, hRl, hRb⟩
  · have ht3 : TxR w3 w.heap.size w.heap.size X.m I2 0 (gR X X.first X.gets.length) none 0 1 := by rw [HW3.out]; exact (ht2.setOv 1).drewN 1
    have hm3 := hm2.tx (hl.up (by omega)) ht2 (HX3.out _)
    have he3 := env_tx HE2.out ht2 (by omega) (HX3.out _)
    have hb3 := HB2.out.trans ((ht2.blw (HX3.out _)).mono (by omega))
    have c4 : w3.cell? ⟨w.heap.size, 4, none⟩ = some (.int .i64 0) := (ht3.c (i := 4) (by omega)).1
    have HWT := Lib.hid (txWait w3 hm3 ht3 (hl.up (by omega)) (by rw [List.length_set]; omega) (by simp [gR]; omega) (fun p hp => by
      obtain ⟨x, _, rfl⟩ := List.mem_map.1 hp
      exact ⟨_, rfl, by rw [List.length_set]; exact Nat.mod_lt _ hn.1⟩) (.inl rfl))
    have HE3 := Lib.hid he3
    have HM3 := Lib.hid hm3
    have HB3 := Lib.hid hb3
    have HE22 := Lib.hid e2
    clear e2 hm2 ht2 ht3 hm3 he3 hb3 HB2 HE2 HW3 HX3
    simp only [if_true]
    go_wp2_with (go_at_call 32; refine halt_ ?_)
    refine Halt_.go ?_
    refine HWT.out.mono ?_
    rintro e w4 ⟨rfl, hm4, hx4⟩
    obtain ⟨he4, hb4⟩ := env_mem HE3.out HM3.out hl hx4 (fun k hk => .inl hk)
    have HE4 := Lib.hid he4
    have HM4 := Lib.hid hm4
    have HB4 := Lib.hid (HB3.out.trans hb4)
    clear hm4 hx4 he4 hb4 HWT c4
    go_wp2
    go_ret2
    exact ⟨HB4.out, ch2, .inl ⟨HE22.out, rfl, HE4.out, HM4.out⟩⟩
  · have ht3 : TxR w3 w.heap.size w.heap.size X.m I2 0 (gR X X.first X.gets.length) none 0 1 := by rw [HW3.out]; exact (ht2.setOv 1).drewN 1
    have hm3 := hm2.tx (hl.up (by omega)) ht2 (HX3.out _)
    have he3 := env_tx HE2.out ht2 (by omega) (HX3.out _)
    have hb3 := HB2.out.trans ((ht2.blw (HX3.out _)).mono (by omega))
    have c4 : w3.cell? ⟨w.heap.size, 4, none⟩ = some (.int .i64 0) := (ht3.c (i := 4) (by omega)).1
    have hct := HH1.out e1
    have HWT := Lib.hid (txWait w3 hm3 ht3 (hl.up (by omega)) (by rw [List.length_set]; omega) (by simp [gR]; omega) (fun p hp => by
      obtain ⟨x, _, rfl⟩ := List.mem_map.1 hp
      exact ⟨_, rfl, by rw [List.length_set]; exact Nat.mod_lt _ hn.1⟩) (.inr ⟨rfl, HCH.out.symm.trans hct⟩))
    have HE3 := Lib.hid he3
    have HM3 := Lib.hid hm3
    have HB3 := Lib.hid hb3
    have HHW := Lib.hid (show X.how ≠ 2 ∧ (if X.chg = true then (2 : Int) else 1) = 2 from ⟨by omega, by simp [hct]⟩)
    clear e1 hct hm2 ht2 ht3 hm3 he3 hb3 HB2 HE2 HW3 HX3
    simp only [if_true]
    go_wp2_with (go_at_call 32; refine halt_ ?_)
    refine Halt_.go ?_
    refine HWT.out.mono ?_
    rintro e w4 ⟨rfl, hm4, hx4⟩
    obtain ⟨he4, hb4⟩ := env_mem HE3.out HM3.out hl hx4 (fun k hk => .inl hk)
    obtain ⟨ch4, hch4⟩ : ∃ ch4, ch4 = ch2 := ⟨_, rfl⟩
    rw [← hch4] at hm4
    have HBG := Lib.hid (txBegin w4 hm4 (by omega))
    have HE4 := Lib.hid he4
    have HM4 := Lib.hid hm4
    have HB4 := Lib.hid (HB3.out.trans hb4)
    clear hm4 hx4 he4 hb4 HWT c4 hch4 HE3 HM3 HB3
    go_wp2
    rw [rounds_succ]
    go_wp2_with (go_at_call 29; refine halt_ ?_)
    refine Halt_.go ?_
    refine HBG.out.mono ?_
    rintro e w5 ⟨I5, rfl, ht5, hb45⟩
    obtain ⟨lo5, hlo5⟩ : ∃ lo5, lo5 = w4.heap.size := ⟨_, rfl⟩
    have hsz4 := HE4.out.size
    have he5 : EnvR w5 X 1 true := HE4.out.kept (fun k hk => hb45.block k (by have := (env_lt HE4.out hk).2; omega)) (fun k hk => hb45.block k (by omega))
    have hm5 := HM4.out.ex (Ex.of_below hb45) (S := fun _ => False) id id id id id
    have hb5 := HB4.out.trans (hb45.mono (by omega))
    have HON := Lib.hid (one7 w5 ht5 (X.K + 4) (X.H + 1) (X.H + 2) X.H (X.K + 1) (X.K + 5) X.K (X.K + 3) (X.K + 2) (X.K + 6) c (by rw [← hz]; exact he5.z) (BQ2 w5 X w4.heap.size w4.heap.size cb g sc ch4) (blk7_2 w5 he5 hm5 ht5 hl (by omega) (HD.out.below hb5 h1) h1 hn ha hg)
      (by rintro r E w' ⟨_, _, rfl, rfl, _, I', R', ht', _⟩; exact ⟨_, _, _, _, _, ht'⟩))
    have HB5 := Lib.hid hb5
    have HHO := Lib.hid (HHW.out)
    clear ht5 hb45 he5 hm5 hb5 HBG HB4 HM4 HE4
    go_wp2_with (go_at_call 30; refine halt_ ?_)
    refine Halt_.go ?_
    refine HON.out.mono ?_
    rintro e w7 ⟨r, E, w6, ⟨hb6, he6, rfl, rfl, hm6, I6, R6, ht6, hRl6, hRb6⟩, rfl, hw7⟩
    have hx7 : Ex w6 w7 (TxS w4.heap.size I6) := by rw [hw7]; exact ((Ex.refl _ _).set _ _ fun _ => .inl rfl).drew
    have ht7 : TxR w7 w4.heap.size w4.heap.size X.m I6 2 R6 (some (((0 : Nat) : Int), X.xp)) 0 1 := by rw [hw7]; exact (ht6.setOv 1).drewN 1
    have hm7 := hm6.tx (hl.up (by omega)) ht6 hx7
    have he7 := env_tx he6 ht6 (by omega) hx7
    have hb7 := HB5.out.trans (hb6.trans ((ht6.blw hx7).mono (by omega)))
    have HC := Lib.hid (txCommit w7 0 X.xp hm7 ht7 (hl.up (by omega)) (by rw [List.length_set]; omega) hRl6 (by rw [List.length_set]; exact hRb6) (.inr rfl) (by rw [List.length_set]; exact hn.1))
    have c4 : w7.cell? ⟨w4.heap.size, 4, none⟩ = some (.int .i64 0) := (ht7.c (i := 4) (by omega)).1
    have HT7 := Lib.hid ht7
    have HM7 := Lib.hid hm7
    have HE7 := Lib.hid he7
    have HB7 := Lib.hid hb7
    clear hb6 he6 hm6 ht6 hRl6 hRb6 hw7 hx7 ht7 hm7 he7 hb7 HON HB5
    simp only [if_true]
    go_wp2_with (go_at_call 31; refine halt_ ?_)
    refine Halt_.go ?_
    refine HC.out.mono ?_
    rintro e w8 hc
    rcases hc with ⟨hne, _⟩ | ⟨_, rfl, ch8, hm8, hx8⟩
    · exact absurd rfl hne
    have hb8 : Below X.H w w8 := hx8.below HB7.out (fun k hk h => by
        have := HM7.out.blk.lt; have := HM7.out.cel.lt; have := HM7.out.lch
        rcases h with h | h | h | h
        · have := (HT7.out.lt h).1; omega
        · omega
        · omega
        · omega) (by have := HE7.out.size; omega)
    have he8 : EnvR w8 X 2 true := HE7.out.ex hx8 (fun k hk => by
        obtain ⟨q1, q2, q3, q4, q5⟩ := mem_not_env HM7.out HE7.out hl
        have := HM7.out.blk.lt; have := HM7.out.cel.lt; have := HM7.out.lch
        rcases hk with h | rfl | rfl | rfl
        · exact ⟨by have := (HT7.out.lt h).1; omega, fun h2 => by have := (HT7.out.lt h).1; have := (env_lt HE7.out h2).2; omega⟩
        · exact ⟨by omega, q1⟩
        · exact ⟨by omega, q3⟩
        · exact ⟨by omega, q5⟩)
    have HM8 := Lib.hid hm8
    have HE8 := Lib.hid he8
    have HB8 := Lib.hid hb8
    clear hm8 hx8 hb8 he8 HC c4 HT7 HM7 HE7 HB7
    go_wp2
    go_ret2
    exact ⟨HB8.out, ch8, .inr ⟨HHO.out.1, rfl, by rw [HHO.out.2]; exact HE8.out, HM8.out⟩⟩
  · have ht3 : TxR w3 w.heap.size w.heap.size X.m I2 0 (gR X X.first X.gets.length) none 8 1 := by rw [HW3.out]; exact (ht2.setOv 1).drewN 1
    have hm3 := hm2.tx (hl.up (by omega)) ht2 (HX3.out _)
    have he3 := env_tx HE2.out ht2 (by omega) (HX3.out _)
    have hb3 := HB2.out.trans ((ht2.blw (HX3.out _)).mono (by omega))
    have c4 : w3.cell? ⟨w.heap.size, 4, none⟩ = some (.int .i64 8) := (ht3.c (i := 4) (by omega)).1
    obtain ⟨w4, hw4⟩ : ∃ w4, w4 = w3 := ⟨_, rfl⟩
    obtain ⟨ch4, hch4⟩ : ∃ ch4, ch4 = ch2 := ⟨_, rfl⟩
    rw [← hch4] at hm3
    rw [← hw4] at hm3 he3 hb3 c4 ⊢
    have HBG := Lib.hid (txBegin w4 hm3 (by omega))
    have HE4 := Lib.hid he3
    have HM4 := Lib.hid hm3
    have HB4 := Lib.hid hb3
    have HHW := Lib.hid (show X.how ≠ 2 ∧ (if X.chg = true then (2 : Int) else 1) = 2 from ⟨by omega, by simp [hct]⟩)
    have b8 : ¬ (8 : Int) = 0 := by omega
    clear e1 e2 hct hm2 ht2 ht3 hm3 he3 hb3 HB2 HE2 HW3 HX3 hw4 hch4
    simp only [if_neg b8]
    go_wp2
    rw [rounds_succ]
    go_wp2_with (go_at_call 29; refine halt_ ?_)
    refine Halt_.go ?_
    refine HBG.out.mono ?_
    rintro e w5 ⟨I5, rfl, ht5, hb45⟩
    obtain ⟨lo5, hlo5⟩ : ∃ lo5, lo5 = w4.heap.size := ⟨_, rfl⟩
    have hsz4 := HE4.out.size
    have he5 : EnvR w5 X 1 true := HE4.out.kept (fun k hk => hb45.block k (by have := (env_lt HE4.out hk).2; omega)) (fun k hk => hb45.block k (by omega))
    have hm5 := HM4.out.ex (Ex.of_below hb45) (S := fun _ => False) id id id id id
    have hb5 := HB4.out.trans (hb45.mono (by omega))
    have HON := Lib.hid (one7 w5 ht5 (X.K + 4) (X.H + 1) (X.H + 2) X.H (X.K + 1) (X.K + 5) X.K (X.K + 3) (X.K + 2) (X.K + 6) c (by rw [← hz]; exact he5.z) (BQ2 w5 X w4.heap.size w4.heap.size cb g sc ch4) (blk7_2 w5 he5 hm5 ht5 hl (by omega) (HD.out.below hb5 h1) h1 hn ha hg)
      (by rintro r E w' ⟨_, _, rfl, rfl, _, I', R', ht', _⟩; exact ⟨_, _, _, _, _, ht'⟩))
    have HB5 := Lib.hid hb5
    have HHO := Lib.hid (HHW.out)
    clear ht5 hb45 he5 hm5 hb5 HBG HB4 HM4 HE4
    go_wp2_with (go_at_call 30; refine halt_ ?_)
    refine Halt_.go ?_
    refine HON.out.mono ?_
    rintro e w7 ⟨r, E, w6, ⟨hb6, he6, rfl, rfl, hm6, I6, R6, ht6, hRl6, hRb6⟩, rfl, hw7⟩
    have hx7 : Ex w6 w7 (TxS w4.heap.size I6) := by rw [hw7]; exact ((Ex.refl _ _).set _ _ fun _ => .inl rfl).drew
    have ht7 : TxR w7 w4.heap.size w4.heap.size X.m I6 2 R6 (some (((0 : Nat) : Int), X.xp)) 0 1 := by rw [hw7]; exact (ht6.setOv 1).drewN 1
    have hm7 := hm6.tx (hl.up (by omega)) ht6 hx7
    have he7 := env_tx he6 ht6 (by omega) hx7
    have hb7 := HB5.out.trans (hb6.trans ((ht6.blw hx7).mono (by omega)))
    have HC := Lib.hid (txCommit w7 0 X.xp hm7 ht7 (hl.up (by omega)) (by rw [List.length_set]; omega) hRl6 (by rw [List.length_set]; exact hRb6) (.inr rfl) (by rw [List.length_set]; exact hn.1))
    have c4 : w7.cell? ⟨w4.heap.size, 4, none⟩ = some (.int .i64 0) := (ht7.c (i := 4) (by omega)).1
    have HT7 := Lib.hid ht7
    have HM7 := Lib.hid hm7
    have HE7 := Lib.hid he7
    have HB7 := Lib.hid hb7
    clear hb6 he6 hm6 ht6 hRl6 hRb6 hw7 hx7 ht7 hm7 he7 hb7 HON HB5
    simp only [if_true]
    go_wp2_with (go_at_call 31; refine halt_ ?_)
    refine Halt_.go ?_
    refine HC.out.mono ?_
    rintro e w8 hc
    rcases hc with ⟨hne, _⟩ | ⟨_, rfl, ch8, hm8, hx8⟩
    · exact absurd rfl hne
    have hb8 : Below X.H w w8 := hx8.below HB7.out (fun k hk h => by
        have := HM7.out.blk.lt; have := HM7.out.cel.lt; have := HM7.out.lch
        rcases h with h | h | h | h
        · have := (HT7.out.lt h).1; omega
        · omega
        · omega
        · omega) (by have := HE7.out.size; omega)
    have he8 : EnvR w8 X 2 true := HE7.out.ex hx8 (fun k hk => by
        obtain ⟨q1, q2, q3, q4, q5⟩ := mem_not_env HM7.out HE7.out hl
        have := HM7.out.blk.lt; have := HM7.out.cel.lt; have := HM7.out.lch
        rcases hk with h | rfl | rfl | rfl
        · exact ⟨by have := (HT7.out.lt h).1; omega, fun h2 => by have := (HT7.out.lt h).1; have := (env_lt HE7.out h2).2; omega⟩
        · exact ⟨by omega, q1⟩
        · exact ⟨by omega, q3⟩
        · exact ⟨by omega, q5⟩)
    have HM8 := Lib.hid hm8
    have HE8 := Lib.hid he8
    have HB8 := Lib.hid hb8
    clear hm8 hx8 hb8 he8 HC c4 HT7 HM7 HE7 HB7
    go_wp2
    go_ret2
    exact ⟨HB8.out, ch8, .inr ⟨HHO.out.1, rfl, by rw [HHO.out.2]; exact HE8.out, HM8.out⟩⟩
  · have ht3 : TxR w3 w.heap.size w.heap.size X.m I2 sn' R' (some (((0 : Nat) : Int), X.xp)) 0 1 := by rw [HW3.out]; exact (ht2.setOv 1).drewN 1
    have hm3 := hm2.tx (hl.up (by omega)) ht2 (HX3.out _)
    have he3 := env_tx HE2.out ht2 (by omega) (HX3.out _)
    have hb3 := HB2.out.trans ((ht2.blw (HX3.out _)).mono (by omega))
    have c4 : w3.cell? ⟨w.heap.size, 4, none⟩ = some (.int .i64 0) := (ht3.c (i := 4) (by omega)).1
    have HC := Lib.hid (txCommit w3 0 X.xp hm3 ht3 (hl.up (by omega)) (by rw [List.length_set]; omega) hRl (by rw [List.length_set]; exact hRb) (.inr rfl) (by rw [List.length_set]; exact hn.1))
    have HT3 := Lib.hid ht3
    have HE3 := Lib.hid he3
    have HM3 := Lib.hid hm3
    have HB3 := Lib.hid hb3
    have HOS := Lib.hid (And.intro hoth hsn)
    clear e1 hm2 ht2 ht3 hm3 he3 hb3 hoth hsn hRl hRb HB2 HE2 HW3 HX3
    simp only [if_true]
    go_wp2_with (go_at_call 31; refine halt_ ?_)
    refine Halt_.go ?_
    refine HC.out.mono ?_
    rintro e w4 hc
    rcases hc with ⟨hne, hoth, rfl, hm4, hx4⟩ | ⟨hv, rfl, ch4, hm4, hx4⟩
    · have he4 := env_tx HE3.out HT3.out (by omega) hx4
      have hb4 := HB3.out.trans ((HT3.out.blw hx4).mono (by omega))
      have hct : X.chg = true := HOS.out.1.symm.trans hoth
      obtain ⟨ch4, hch4⟩ : ∃ ch4, ch4 = ch2 := ⟨_, rfl⟩
      rw [← hch4] at hm4
      have HBG := Lib.hid (txBegin w4 hm4 (by omega))
      have HE4 := Lib.hid he4
      have HM4 := Lib.hid hm4
      have HB4 := Lib.hid hb4
      have HHW := Lib.hid (show X.how ≠ 2 ∧ (if X.chg = true then (2 : Int) else 1) = 2 from ⟨e2, by simp [hct]⟩)
      clear hne hoth hm4 hx4 he4 hb4 hct hch4 HC c4 HT3 HE3 HM3 HB3 e2
      go_wp2
      rw [rounds_succ]
      go_wp2_with (go_at_call 29; refine halt_ ?_)
      refine Halt_.go ?_
      refine HBG.out.mono ?_
      rintro e w5 ⟨I5, rfl, ht5, hb45⟩
      obtain ⟨lo5, hlo5⟩ : ∃ lo5, lo5 = w4.heap.size := ⟨_, rfl⟩
      have hsz4 := HE4.out.size
      have he5 : EnvR w5 X 1 true := HE4.out.kept (fun k hk => hb45.block k (by have := (env_lt HE4.out hk).2; omega)) (fun k hk => hb45.block k (by omega))
      have hm5 := HM4.out.ex (Ex.of_below hb45) (S := fun _ => False) id id id id id
      have hb5 := HB4.out.trans (hb45.mono (by omega))
      have HON := Lib.hid (one7 w5 ht5 (X.K + 4) (X.H + 1) (X.H + 2) X.H (X.K + 1) (X.K + 5) X.K (X.K + 3) (X.K + 2) (X.K + 6) c (by rw [← hz]; exact he5.z) (BQ2 w5 X w4.heap.size w4.heap.size cb g sc ch4) (blk7_2 w5 he5 hm5 ht5 hl (by omega) (HD.out.below hb5 h1) h1 hn ha hg)
        (by rintro r E w' ⟨_, _, rfl, rfl, _, I', R', ht', _⟩; exact ⟨_, _, _, _, _, ht'⟩))
      have HB5 := Lib.hid hb5
      have HHO := Lib.hid (HHW.out)
      clear ht5 hb45 he5 hm5 hb5 HBG HB4 HM4 HE4
      go_wp2_with (go_at_call 30; refine halt_ ?_)
      refine Halt_.go ?_
      refine HON.out.mono ?_
      rintro e w7 ⟨r, E, w6, ⟨hb6, he6, rfl, rfl, hm6, I6, R6, ht6, hRl6, hRb6⟩, rfl, hw7⟩
      have hx7 : Ex w6 w7 (TxS w4.heap.size I6) := by rw [hw7]; exact ((Ex.refl _ _).set _ _ fun _ => .inl rfl).drew
      have ht7 : TxR w7 w4.heap.size w4.heap.size X.m I6 2 R6 (some (((0 : Nat) : Int), X.xp)) 0 1 := by rw [hw7]; exact (ht6.setOv 1).drewN 1
      have hm7 := hm6.tx (hl.up (by omega)) ht6 hx7
      have he7 := env_tx he6 ht6 (by omega) hx7
      have hb7 := HB5.out.trans (hb6.trans ((ht6.blw hx7).mono (by omega)))
      have HC := Lib.hid (txCommit w7 0 X.xp hm7 ht7 (hl.up (by omega)) (by rw [List.length_set]; omega) hRl6 (by rw [List.length_set]; exact hRb6) (.inr rfl) (by rw [List.length_set]; exact hn.1))
      have c4 : w7.cell? ⟨w4.heap.size, 4, none⟩ = some (.int .i64 0) := (ht7.c (i := 4) (by omega)).1
      have HT7 := Lib.hid ht7
      have HM7 := Lib.hid hm7
      have HE7 := Lib.hid he7
      have HB7 := Lib.hid hb7
      clear hb6 he6 hm6 ht6 hRl6 hRb6 hw7 hx7 ht7 hm7 he7 hb7 HON HB5
      simp only [if_true]
      go_wp2_with (go_at_call 31; refine halt_ ?_)
      refine Halt_.go ?_
      refine HC.out.mono ?_
      rintro e w8 hc
      rcases hc with ⟨hne, _⟩ | ⟨_, rfl, ch8, hm8, hx8⟩
      · exact absurd rfl hne
      have hb8 : Below X.H w w8 := hx8.below HB7.out (fun k hk h => by
          have := HM7.out.blk.lt; have := HM7.out.cel.lt; have := HM7.out.lch
          rcases h with h | h | h | h
          · have := (HT7.out.lt h).1; omega
          · omega
          · omega
          · omega) (by have := HE7.out.size; omega)
      have he8 : EnvR w8 X 2 true := HE7.out.ex hx8 (fun k hk => by
          obtain ⟨q1, q2, q3, q4, q5⟩ := mem_not_env HM7.out HE7.out hl
          have := HM7.out.blk.lt; have := HM7.out.cel.lt; have := HM7.out.lch
          rcases hk with h | rfl | rfl | rfl
          · exact ⟨by have := (HT7.out.lt h).1; omega, fun h2 => by have := (HT7.out.lt h).1; have := (env_lt HE7.out h2).2; omega⟩
          · exact ⟨by omega, q1⟩
          · exact ⟨by omega, q3⟩
          · exact ⟨by omega, q5⟩)
      have HM8 := Lib.hid hm8
      have HE8 := Lib.hid he8
      have HB8 := Lib.hid hb8
      clear hm8 hx8 hb8 he8 HC c4 HT7 HM7 HE7 HB7
      go_wp2
      go_ret2
      exact ⟨HB8.out, ch8, .inr ⟨HHO.out.1, rfl, by rw [HHO.out.2]; exact HE8.out, HM8.out⟩⟩
    · have hcf : X.chg = false := by
        rcases hv with h | h
        · exact HOS.out.2 h.symm
        · exact HOS.out.1.symm.trans h
      have he4 : EnvR w4 X 1 true := HE3.out.ex hx4 (fun k hk => by
        obtain ⟨q1, q2, q3, q4, q5⟩ := mem_not_env HM3.out HE3.out hl
        have := HM3.out.blk.lt; have := HM3.out.cel.lt; have := HM3.out.lch
        rcases hk with h | rfl | rfl | rfl
        · exact ⟨by have := (HT3.out.lt h).1; omega, fun h2 => by have := (HT3.out.lt h).1; have := (env_lt HE3.out h2).2; omega⟩
        · exact ⟨by omega, q1⟩
        · exact ⟨by omega, q3⟩
        · exact ⟨by omega, q5⟩)
      have hb4 : Below X.H w w4 := hx4.below HB3.out (fun k hk h => by
        have := HM3.out.blk.lt; have := HM3.out.cel.lt; have := HM3.out.lch
        rcases h with h | h | h | h
        · have := (HT3.out.lt h).1; omega
        · omega
        · omega
        · omega) (by have := HE3.out.size; omega)
      have HE4 := Lib.hid he4
      have HM4 := Lib.hid hm4
      have HB4 := Lib.hid hb4
      have HHW := Lib.hid (show X.how ≠ 2 ∧ (if X.chg = true then (2 : Int) else 1) = 1 from ⟨e2, by simp [hcf]⟩)
      clear hv hm4 hx4 he4 hb4 hcf HC c4 HT3 HE3 HM3 HB3 e2
      go_wp2
      go_ret2
      exact ⟨HB4.out, ch4, .inr ⟨HHW.out.1, rfl, by rw [HHW.out.2]; exact HE4.out, HM4.out⟩⟩
end
end Go.Proofs.YtomcobcmjocapaaGreatDoor
