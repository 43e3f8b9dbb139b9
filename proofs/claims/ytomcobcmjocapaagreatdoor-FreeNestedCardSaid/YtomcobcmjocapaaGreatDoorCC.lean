/- Atomically of a block that is committed at once; Store. -/
import Derived.Test.YtomcobcmjocapaaGreatDoorBB
namespace Go.Proofs.YtomcobcmjocapaaGreatDoor
open Go.RowKit Go.MuLone
section
variable {lo0 m cb g sc ch : Nat} {ws : List Int} {ck od : Int} {sb : Bool}
set_option maxRecDepth 100000 in
set_option maxHeartbeats 6400000 in
theorem atomically14 (w : World) (hm : MemR w lo0 m cb g sc ch ws ck 0 od sb) (hwl : ws.length ≤ 65536) (hev : ck = 0 ∨ ck = 2) (a : Nat) (x : Int) (ha : a < ws.length) 
    (hF : ∀ wz w1 I, Below w.heap.size w wz → wz.heap.size = w.heap.size + 1 → TxR w1 wz.heap.size wz.heap.size m I ck [] none 0 0 → MemR w1 lo0 m cb g sc ch ws ck 0 od sb → Below wz.heap.size wz w1 → Calls Tryz.prog 14 #[IV wz.heap.size] w1 fun e w2 => e = .returned (.int .i64 0) ∧ BlkP wz lo0 wz.heap.size wz.heap.size m cb g sc ch ws ck 0 od sb a x w2) :
    Calls Tryz.prog 6 #[.pointer (some ⟨m, 0, none⟩), .func (.func 14) #[] #[]] w fun e w' => e = .returned (.tuple #[.int .u64 (ck / 2 + 1), .int .i64 0]) ∧ ∃ ch', MemR w' lo0 m cb g sc ch' (ws.set a x) (ck + 2) 0 od sb ∧ Ex w w' (fun k => k = m ∨ k = g ∨ k = ch) := by
  have HN := Lib.hid (memNone w hm)
  have hn : (binOp .eql 38 (.func (.func 14) #[] #[]) .nilFunc).run Tryz.prog w = .ok (.bool false) w := by kernel_rfl
  obtain ⟨wz, hwz⟩ : ∃ wz, wz = w.alloc (.cells #[.func (.func 14) #[] #[]] 38) := ⟨_, rfl⟩
  have hbz : Below w.heap.size w wz := by rw [hwz]; exact (Below.refl _ w).alloc (Nat.le_refl _) _
  have hsz : wz.heap.size = w.heap.size + 1 := by rw [hwz]; simp
  have hcz : wz.cell? ⟨w.heap.size, 0, none⟩ = some (.func (.func 14) #[] #[]) := cell_of_row wz _ 0 _ _ _ (by rw [hwz]; exact heap_at _ _ _ rfl)
  have hmz := hm.ex (Ex.of_below hbz) (S := fun _ => False) id id id id id
  have HE := Lib.hid (either14 wz hmz hwl hev a x ha  w.heap.size 1 hcz (fun w1 I => hF wz w1 I hbz hsz))
  have HWZ := Lib.hid hwz
  have HBZ := Lib.hid hbz
  clear hm hF hwz hbz hsz hcz hmz
  go_enter Tryz.func6, Tryz.ntmps6
  go_wp2_with (go_at_call 19; refine halt_ ?_)
  refine Halt_.go ?_
  refine HN.out.mono ?_
  rintro e w0 ⟨rfl, rfl⟩
  clear HN
  go_wp2_with (go_at_call 15; refine halt_ ?_)
  refine Halt_.go ?_
  rw [← HWZ.out]
  refine HE.out.mono ?_
  rintro e w4 ⟨rfl, ch', hm4, hx4⟩
  have HM4 := Lib.hid hm4
  have HX4 := Lib.hid hx4
  clear hm4 hx4 HE hn
  go_wp2
  go_ret2
  exact ⟨rfl, ch', HM4.out, (Ex.of_below HBZ.out).trans HX4.out (fun k _ h => h)⟩
set_option maxRecDepth 100000 in
set_option maxHeartbeats 6400000 in
theorem atomically21 (w : World) (hm : MemR w lo0 m cb g sc ch ws ck 0 od sb) (hwl : ws.length ≤ 65536) (hev : ck = 0 ∨ ck = 2) (a : Nat) (x : Int) (ha : a < ws.length) (p1 p2 : Nat) 
    (hF : ∀ wz w1 I, Below w.heap.size w wz → wz.heap.size = w.heap.size + 1 → TxR w1 wz.heap.size wz.heap.size m I ck [] none 0 0 → MemR w1 lo0 m cb g sc ch ws ck 0 od sb → Below wz.heap.size wz w1 → Calls Tryz.prog 21 #[IV wz.heap.size, .pointer (some ⟨p1, 0, none⟩), .pointer (some ⟨p2, 0, none⟩)] w1 fun e w2 => e = .returned (.int .i64 0) ∧ BlkP wz lo0 wz.heap.size wz.heap.size m cb g sc ch ws ck 0 od sb a x w2) :
    Calls Tryz.prog 6 #[.pointer (some ⟨m, 0, none⟩), .func (.func 21) #[] #[.pointer (some ⟨p1, 0, none⟩), .pointer (some ⟨p2, 0, none⟩)]] w fun e w' => e = .returned (.tuple #[.int .u64 (ck / 2 + 1), .int .i64 0]) ∧ ∃ ch', MemR w' lo0 m cb g sc ch' (ws.set a x) (ck + 2) 0 od sb ∧ Ex w w' (fun k => k = m ∨ k = g ∨ k = ch) := by
  have HN := Lib.hid (memNone w hm)
  have hn : (binOp .eql 38 (.func (.func 21) #[] #[.pointer (some ⟨p1, 0, none⟩), .pointer (some ⟨p2, 0, none⟩)]) .nilFunc).run Tryz.prog w = .ok (.bool false) w := by kernel_rfl
  obtain ⟨wz, hwz⟩ : ∃ wz, wz = w.alloc (.cells #[.func (.func 21) #[] #[.pointer (some ⟨p1, 0, none⟩), .pointer (some ⟨p2, 0, none⟩)]] 38) := ⟨_, rfl⟩
  have hbz : Below w.heap.size w wz := by rw [hwz]; exact (Below.refl _ w).alloc (Nat.le_refl _) _
  have hsz : wz.heap.size = w.heap.size + 1 := by rw [hwz]; simp
  have hcz : wz.cell? ⟨w.heap.size, 0, none⟩ = some (.func (.func 21) #[] #[.pointer (some ⟨p1, 0, none⟩), .pointer (some ⟨p2, 0, none⟩)]) := cell_of_row wz _ 0 _ _ _ (by rw [hwz]; exact heap_at _ _ _ rfl)
  have hmz := hm.ex (Ex.of_below hbz) (S := fun _ => False) id id id id id
  have HE := Lib.hid (either21 wz hmz hwl hev a x ha p1 p2 w.heap.size 1 hcz (fun w1 I => hF wz w1 I hbz hsz))
  have HWZ := Lib.hid hwz
  have HBZ := Lib.hid hbz
  clear hm hF hwz hbz hsz hcz hmz
  go_enter Tryz.func6, Tryz.ntmps6
  go_wp2_with (go_at_call 19; refine halt_ ?_)
  refine Halt_.go ?_
  refine HN.out.mono ?_
  rintro e w0 ⟨rfl, rfl⟩
  clear HN
  go_wp2_with (go_at_call 15; refine halt_ ?_)
  refine Halt_.go ?_
  rw [← HWZ.out]
  refine HE.out.mono ?_
  rintro e w4 ⟨rfl, ch', hm4, hx4⟩
  have HM4 := Lib.hid hm4
  have HX4 := Lib.hid hx4
  clear hm4 hx4 HE hn
  go_wp2
  go_ret2
  exact ⟨rfl, ch', HM4.out, (Ex.of_below HBZ.out).trans HX4.out (fun k _ h => h)⟩
theorem CelR.drewN {w : World} {lo cb g : Nat} {ws : List Int} (h : CelR w lo cb g ws) (n : Nat) : CelR (w.drewN n) lo cb g ws := h.kept rfl rfl
set_option maxRecDepth 100000 in
set_option maxHeartbeats 6400000 in
theorem memStore (w : World) (hm : MemR w lo0 m cb g sc ch ws ck 0 od sb) (hd : Deb w) (h1 : 1 < w.heap.size) (hwl : ws.length ≤ 65536) (hev : ck = 0 ∨ ck = 2) (a : Nat) (x : Int) (ha : a < ws.length) :
    Calls Tryz.prog 9 #[.pointer (some ⟨m, 0, none⟩), .int .u64 a, .int .u64 x] w fun e w' => e = .returned (.int .i64 0) ∧ ∃ ch', MemR w' lo0 m cb g sc ch' (ws.set a x) (ck + 2) 0 od sb ∧ Ex w w' (fun k => k = m ∨ k = g ∨ k = ch) := by
  obtain ⟨wb, hwb⟩ : ∃ wb, wb = (w.alloc (.cells #[.int .u64 a] 23)).alloc (.cells #[.int .u64 x] 23) := ⟨_, rfl⟩
  have hbb : Below w.heap.size w wb := by rw [hwb]; exact ((Below.refl _ w).alloc (Nat.le_refl _) _).alloc (by simp) _
  have hsz : wb.heap.size = w.heap.size + 2 := by rw [hwb]; simp
  have hp : wb.cell? ⟨w.heap.size, 0, none⟩ = some (.int .u64 a) := cell_of_row wb _ 0 _ _ _ (by rw [hwb]; exact (Go.heap_alloc_old _ _ (by simp)).trans (heap_at _ _ _ rfl))
  have hq : wb.cell? ⟨w.heap.size + 1, 0, none⟩ = some (.int .u64 x) := cell_of_row wb (w.heap.size + 1) 0 #[.int .u64 x] 23 _ (by rw [hwb]; exact heap_at _ _ _ (by simp))
  have hmb := hm.ex (Ex.of_below hbb) (S := fun _ => False) id id id id id
  have hdb := hd.below hbb h1
  obtain ⟨N0, hN0⟩ : ∃ N0, N0 = w.heap.size := ⟨_, rfl⟩
  rw [← hN0] at hsz hp hq
  have HN := Lib.hid (memNone wb hmb)
  have m0 : wb.cell? ⟨m, 0, none⟩ = some (.pointer (some ⟨cb, 0, none⟩)) := (hmb.c (i := 0) (by omega)).1
  have HL : Hid (∀ n, Calls Tryz.prog 20 #[.pointer (some ⟨cb, 0, none⟩)] (wb.drewN n) fun e w' => e = .returned (.int .i64 ws.length) ∧ w' = wb.drewN n) := fun n => celLen (wb.drewN n) (hmb.cel.drewN n)
  have HAT : Hid (∀ n, Calls Tryz.prog 6 #[.pointer (some ⟨m, 0, none⟩), .func (.func 21) #[] #[.pointer (some ⟨N0, 0, none⟩), .pointer (some ⟨N0 + 1, 0, none⟩)]] (wb.drewN n) fun e w' => e = .returned (.tuple #[.int .u64 (ck / 2 + 1), .int .i64 0]) ∧ ∃ ch', MemR w' lo0 m cb g sc ch' (ws.set a x) (ck + 2) 0 od sb ∧ Ex (wb.drewN n) w' (fun k => k = m ∨ k = g ∨ k = ch)) := by
    intro n
    refine atomically21 (wb.drewN n) (hmb.drewN n) hwl hev a x ha N0 (N0 + 1) ?_
    intro wz w1 I hbz hsz2 ht1 hm1 hb1
    have hb : Below wb.heap.size wb w1 := (bdrewN (Below.refl _ wb) n).trans (hbz.trans (hb1.mono hbz.size))
    refine (blk21 w1 hm1 ht1 (hdb.below hb (by omega)) hwl a x ha N0 (N0 + 1) ((hb.cell (p := ⟨N0, 0, none⟩) (show N0 < wb.heap.size by omega)).trans hp) ((hb.cell (p := ⟨N0 + 1, 0, none⟩) (show N0 + 1 < wb.heap.size by omega)).trans hq)).mono ?_
    rintro e w2 ⟨rfl, I', ht2, hx2⟩
    have hl : Lies wz.heap.size m cb g sc := by
      have := hmb.blk.lt; have := hmb.cel.lt; have := hmb.lch; have hh := hbz.size
      refine ⟨?_, ?_, ?_, ?_⟩ <;> (have e : (wb.drewN n).heap.size = wb.heap.size := rfl; omega)
    exact ⟨rfl, I', ck, [], ht2, hm1.tx hl ht1 hx2, hb1.trans (ht1.blw hx2), .inl rfl, by simp, by simp⟩
  have i3 : IntKind.u64.wrap (ws.length : Int) = (ws.length : Int) := by simp [IntKind.wrap_u64]; omega
  have i4 : (a : Int) < (ws.length : Int) := by omega
  have HWB := Lib.hid hwb
  have HBB := Lib.hid hbb
  have HN0 := Lib.hid hN0
  have mk : ∀ W, (Instr.makeFunc (.func 21) #[] #[.pointer (some ⟨N0, 0, none⟩), .pointer (some ⟨N0 + 1, 0, none⟩)]).run Tryz.prog W = .ok (.func (.func 21) #[] #[.pointer (some ⟨N0, 0, none⟩), .pointer (some ⟨N0 + 1, 0, none⟩)]) W := fun W => by kernel_rfl
  clear hm hd hwb hbb hN0 hmb hdb
  go_enter Tryz.func9, Tryz.ntmps9
  go_wp2_with (go_at_call 19; refine halt_ ?_)
  refine Halt_.go ?_
  rw [← HWB.out]
  refine HN.out.mono ?_
  rintro e w0 ⟨rfl, rfl⟩
  clear HN
  rw [← HN0.out]
  go_wp2
  go_quiet ((go_at_call 20; exact Calls.quiet_of_same (HL.out _)))
  go_wp2_with (go_at_call 6; refine halt_ ?_)
  refine Halt_.go ?_
  refine (HAT.out nq).mono ?_
  rintro e w4 ⟨rfl, ch', hm4, hx4⟩
  have HM4 := Lib.hid hm4
  have HX4 := Lib.hid ((Ex.of_below (bdrewN HBB.out nq)).trans hx4 (fun k _ h => h))
  clear hm4 hx4 HAT HL hp hq m0
  go_wp2
  go_ret
  exact ⟨rfl, ch', HM4.out, HX4.out⟩
end
end Go.Proofs.YtomcobcmjocapaaGreatDoor
