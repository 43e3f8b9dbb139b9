/- Take, of the key 0. -/
import Derived.Test.YtomcobcmjocapaaGreatDoorDD
namespace Go.Proofs.YtomcobcmjocapaaGreatDoor
open Go.RowKit Go.MuLone
section
variable {lo tb sg : Nat} {vK : Value}
theorem hm0 : hmI ((0 : Nat) : Int) = 0 := by decide
theorem slot_clear : (((slotL (some ((0 : Nat) : Int))).set 0 (.bool false)).set 1 (.int .u64 0)).set 2 (.int .i64 0) = slotL none := by rfl
set_option maxRecDepth 100000 in
set_option maxHeartbeats 3200000 in
theorem tabTake0 (w : World) (h : TabR w lo tb sg vK (some ((0 : Nat) : Int))) (hd : Deb w) :
    Calls Tryz.prog 59 #[.pointer (some ⟨tb, 0, none⟩), .int .u64 0] w fun e w' => e = .returned (.tuple #[.int .i64 0, .bool true]) ∧ ∃ vK', TabR w' lo tb sg vK' none ∧ vK'.ownBlock = vK.ownBlock ∧ Ex w w' (fun k => k = tb ∨ k = sg ∨ vK.ownBlock = some k) := by
  have HG := Lib.hid (tabGet w h hd 0 (.inr rfl))
  have hT : Hid (∀ n, TabR (w.drewN n) lo tb sg vK (some ((0 : Nat) : Int)) ∧ Deb (w.drewN n)) := fun n => ⟨h.kept fun _ _ _ => rfl, hd⟩
  clear h hd
  go_enter Tryz.func59, Tryz.ntmps59
  go_wp2_with (go_at_call 69; refine halt_ ?_)
  refine Halt_.go ?_
  refine HG.out.mono ?_
  rintro e w1 ⟨rfl, n, hn⟩
  have h1 := (hT.out n).1
  have hd1 := (hT.out n).2
  rw [← hn] at h1 hd1
  have HX1 : Hid (Ex w w1 (fun k => k = tb ∨ k = sg ∨ vK.ownBlock = some k)) := by rw [hn]; exact (Ex.refl _ _).drewN n
  have hlk := tabLook w1 h1 hd1 0 (.inr rfl)
  rw [hm0] at hlk
  have HLK := Lib.hid hlk
  have c0 := h1.c0.1
  have s0 := h1.slot (j := 0) (by omega) (t := 0) (by omega) (v := .bool true) rfl
  have s1 := h1.slot (j := 0) (by omega) (t := 1) (by omega) (v := .int .u64 0) rfl
  have s2 := h1.slot (j := 0) (by omega) (t := 2) (by omega) (v := .int .i64 0) rfl
  have s3 := h1.slot (j := 1) (by omega) (t := 0) (by omega) (v := .bool false) rfl
  simp only [Nat.zero_mul, Nat.zero_add, Nat.one_mul, Nat.add_zero] at s0 s1 s2 s3
  have HT1 := Lib.hid h1
  obtain ⟨s0, z0⟩ := s0
  obtain ⟨s1, z1⟩ := s1
  obtain ⟨s2, z2⟩ := s2
  obtain ⟨s3, z3⟩ := s3
  have hne : ¬ tb = sg := fun e => blk_ne h1.blk h1.row (by decide) e.symm
  have hne2 : ¬ sg = tb := fun e => blk_ne h1.blk h1.row (by decide) e
  clear hn h1 hd1 hlk HG hT
  simp only [Option.isSome_some]
  go_wp2_with (go_at_call 70; refine halt_ ?_)
  refine Halt_.go ?_
  refine HLK.out.mono ?_
  rintro e w2 ⟨rfl, rfl⟩
  clear HLK
  go_wp2
  rw [show bits BinOp.and IntKind.i64 1 7 = 1 from by decide]
  obtain ⟨w3, hw3⟩ : ∃ w3, w3 = ((w2.setCell ⟨sg, 0, none⟩ (.bool false)).setCell ⟨sg, 1, none⟩ (.int .u64 0)).setCell ⟨sg, 2, none⟩ (.int .i64 0) := ⟨_, rfl⟩
  rw [← hw3]
  have hblk := HT1.out.blk
  have hrow := HT1.out.row
  have hkey : w2.ownsRow lo 23 1 vK 1 [.int .u64 0] := HT1.out.keys
  have hb3 : ∀ k, k ≠ sg → w3.heap[k]? = w2.heap[k]? := fun k hk => by
    rw [hw3, Below.heap_setCell _ _ _ k hk, Below.heap_setCell _ _ _ k hk, Below.heap_setCell _ _ _ k hk]
  have hrow3 : w3.ownsRow lo 138 3 (.slice (some ⟨sg, 0, none⟩) 8 8) 8 (slotL none) := by
    have e1 := (World.ownsRow.stored hrow 0 (.bool false)).1
    have e2 := (World.ownsRow.stored e1 1 (.int .u64 0)).1
    have e3 := (World.ownsRow.stored e2 2 (.int .i64 0)).1
    rw [slot_clear] at e3
    rw [hw3]
    exact e3
  obtain ⟨gk, ck, hvK, hbg, hgk⟩ := hkey.form (by omega)
  subst hvK
  have hkeyne : gk ≠ sg := fun e => own_apart hrow hkey (by decide) rfl (by rw [e]; rfl)
  have hkeytb : gk ≠ tb := fun e => own_apart (show w2.ownsRow lo 134 2 (.slice (some ⟨tb, 0, none⟩) 1 1) 1 _ from hblk) hkey (by decide) rfl (by rw [e]; rfl)
  have hkey3 : w3.ownsRow lo 23 1 (.slice (some ⟨gk, 0, none⟩) 1 ck) 1 [.int .u64 0] := own_keep hkey fun k hk => hb3 k (by injection hk with hk; subst hk; exact hkeyne)
  have hblk3 := hblk.kept (hb3 tb hne)
  have HX3 : Hid (Ex w w3 (fun k => k = tb ∨ k = sg ∨ (Value.slice (some ⟨gk, 0, none⟩) 1 ck).ownBlock = some k)) := by
    rw [hw3]
    exact (((HX1.out.set _ _ fun _ => .inr (.inl rfl)).set _ _ fun _ => .inr (.inl rfl)).set _ _ fun _ => .inr (.inl rfl))
  have e0 : w3.cell? ⟨tb, 0, none⟩ = some (.slice (some ⟨sg, 0, none⟩) 8 8) := (hblk3.cell (j := 0) (by omega)).1
  have e1 : w3.cell? ⟨tb, 1, none⟩ = some (.slice (some ⟨gk, 0, none⟩) 1 ck) := (hblk3.cell (j := 1) (by omega)).1
  have e3 : w3.cell? ⟨sg, 3, none⟩ = some (.bool false) := by
    have := hrow3.cellAt 3 (by omega)
    rw [this]
    rfl
  have HIX := Lib.hid (index1 w3 gk ck 0 (hkey3.cellAt 0 (by omega)))
  have HDL := Lib.hid (delete1 w3 lo gk ck 0 hkey3)
  have HROW := Lib.hid hrow3
  have HBLK := Lib.hid hblk3
  have HNE := Lib.hid (And.intro hne (And.intro hkeyne hkeytb))
  clear hw3 hblk hrow hkey hb3 hrow3 hbg hgk hkeyne hkeytb hkey3 hblk3 c0 HT1 s0 z0 s1 z1 s2 z2 s3 z3 HX1
  refine wp_loop_once ?_
  go_wp2_with (go_at_call 72; refine halt_ ?_)
  refine Halt_.go ?_
  refine HIX.out.mono ?_
  rintro e w4 ⟨rfl, rfl⟩
  clear HIX
  go_wp2_with (go_at_call 73; refine halt_ ?_)
  refine Halt_.go ?_
  refine HDL.out.mono ?_
  rintro e w5 ⟨rfl, hk5, hx5⟩
  have hn := HNE.out
  have hblk5 := HBLK.out.kept (hx5.block tb HBLK.out.lt.2 (fun e => hn.2.2 e.symm))
  have hrow5 : w5.ownsRow lo 138 3 (.slice (some ⟨sg, 0, none⟩) 8 8) 8 (slotL none) := own_keep HROW.out fun k hk => hx5.block k (World.ownsRow.lt HROW.out k hk).2 (by injection hk with hk; subst hk; exact fun e => hn.2.1 e.symm)
  obtain ⟨f1, z1⟩ := hblk5.cell (j := 1) (by omega)
  replace f1 : w5.cell? ⟨tb, 1, none⟩ = some (.slice (some ⟨gk, 0, none⟩) 1 ck) := f1
  have HK5 := Lib.hid hk5
  have HX5 := Lib.hid hx5
  have HB5 := Lib.hid hblk5
  have HR5 := Lib.hid hrow5
  clear hk5 hx5 hblk5 hrow5 hn HDL e0 e1 e3
  go_wp2
  go_ret2
  have hn := HNE.out
  refine ⟨rfl, .slice (some ⟨gk, 0, none⟩) 0 ck, ⟨?_, ?_, ?_⟩, rfl, ?_⟩
  · refine (HB5.out.set 1 (.slice (some ⟨gk, 0, none⟩) 0 ck)).congr fun i hi => ?_
    have : i = 0 ∨ i = 1 := by omega
    rcases this with rfl | rfl <;> rfl
  · exact own_keep HR5.out fun k hk => Below.heap_setCell w5 ⟨tb, 1, none⟩ _ k (by injection hk with hk; subst hk; exact hne2)
  · exact own_keep HK5.out fun k hk => Below.heap_setCell w5 ⟨tb, 1, none⟩ _ k (by injection hk with hk; subst hk; exact hn.2.2)
  · exact ((HX3.out.trans HX5.out (fun k _ e => .inr (.inr (by rw [e]; rfl)))).set ⟨tb, 1, none⟩ _ fun _ => .inl rfl)
end
end Go.Proofs.YtomcobcmjocapaaGreatDoor
