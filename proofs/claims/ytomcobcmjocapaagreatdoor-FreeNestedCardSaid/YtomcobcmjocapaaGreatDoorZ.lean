/- The blocks of works; one, of one function. -/
import Derived.Test.YtomcobcmjocapaaGreatDoorY
namespace Go.Proofs.YtomcobcmjocapaaGreatDoor
open Go.RowKit Go.MuLone
/-- a tx as the interface that a block's function takes -/
def IV (b : Nat) : Value := .iface 72 (.pointer (some ⟨b, 0, none⟩))
theorem TxR.blw {w w' : World} {lo b m : Nat} {I : TI} {sn e ov : Int} {R : List (Int × Int)} {D : Option (Int × Int)} (h : TxR w lo b m I sn R D e ov) (hx : Ex w w' (TxS b I)) : Below lo w w' :=
  hx.below (Below.refl _ w) (fun k hk h2 => by have := (h.lt h2).1; omega) (by have := (h.lt (.inl rfl : TxS b I b)); omega)
theorem Deb.below {w w' : World} (h : Deb w) {B : Nat} (hb : Below B w w') (h1 : 1 < B) : Deb w' := (hb.cell (p := ⟨1, 7, none⟩) h1).trans h
section
variable {lo0 lo m b cb g sc ch : Nat} {ws : List Int} {ck st od sn : Int} {sb : Bool} {R : List (Int × Int)} {I : TI}
set_option maxRecDepth 100000 in
set_option maxHeartbeats 1600000 in
theorem blk16 (w : World) (hm : MemR w lo0 m cb g sc ch ws ck st od sb) (h : TxR w lo b m I sn R none 0 0) (hd : Deb w) (hwl : ws.length ≤ 65536) (ha : 0 < ws.length) :
    Calls Tryz.prog 16 #[IV b] w fun e' w' => e' = .returned (.int .i64 390) ∧ ∃ I', TxR w' lo b m I' sn R (some ((0 : Nat), 7)) 0 0 ∧ Ex w w' (TxS b I) := by
  have H := Lib.hid (txPut w hm h hd hwl 0 7 ha)
  clear hm h
  unfold IV
  go_enter Tryz.func16, Tryz.ntmps16
  go_wp2_with (go_at_call 113; refine halt_ ?_)
  refine Halt_.go ?_
  refine H.out.mono ?_
  rintro e w' ⟨rfl, hx⟩
  have HX := Lib.hid hx
  clear hx H
  go_wp2
  go_ret
  exact ⟨rfl, HX.out⟩
set_option maxRecDepth 100000 in
set_option maxHeartbeats 1600000 in
theorem blk17 (w : World) (hm : MemR w lo0 m cb g sc ch ws ck st od sb) (h : TxR w lo b m I sn R none 0 0) (hd : Deb w) (hwl : ws.length ≤ 65536) (ha : 1 < ws.length) :
    Calls Tryz.prog 17 #[IV b] w fun e' w' => e' = .returned (.int .i64 0) ∧ ∃ I', TxR w' lo b m I' sn R (some ((1 : Nat), 8)) 0 0 ∧ Ex w w' (TxS b I) := by
  have H := Lib.hid (txPut w hm h hd hwl 1 8 ha)
  clear hm h
  unfold IV
  go_enter Tryz.func17, Tryz.ntmps17
  go_wp2_with (go_at_call 113; refine halt_ ?_)
  refine Halt_.go ?_
  refine H.out.mono ?_
  rintro e w' ⟨rfl, hx⟩
  have HX := Lib.hid hx
  clear hx H
  go_wp2
  go_ret
  exact ⟨rfl, HX.out⟩
set_option maxRecDepth 100000 in
set_option maxHeartbeats 1600000 in
/-- Store's block: a put of the two boxed words -/
theorem blk21 (w : World) (hm : MemR w lo0 m cb g sc ch ws ck st od sb) (h : TxR w lo b m I sn R none 0 0) (hd : Deb w) (hwl : ws.length ≤ 65536) (a : Nat) (x : Int) (ha : a < ws.length) (p q : Nat)
    (hp : w.cell? ⟨p, 0, none⟩ = some (.int .u64 a)) (hq : w.cell? ⟨q, 0, none⟩ = some (.int .u64 x)) :
    Calls Tryz.prog 21 #[IV b, .pointer (some ⟨p, 0, none⟩), .pointer (some ⟨q, 0, none⟩)] w fun e' w' => e' = .returned (.int .i64 0) ∧ ∃ I', TxR w' lo b m I' sn R (some ((a : Int), x)) 0 0 ∧ Ex w w' (TxS b I) := by
  have H := Lib.hid (txPut w hm h hd hwl a x ha)
  clear hm h
  unfold IV
  go_enter Tryz.func21, Tryz.ntmps21
  go_wp2_with (go_at_call 113; refine halt_ ?_)
  refine Halt_.go ?_
  refine H.out.mono ?_
  rintro e w' ⟨rfl, hx⟩
  have HX := Lib.hid hx
  clear hx H hp hq
  go_wp2
  go_ret
  exact ⟨rfl, HX.out⟩
set_option maxRecDepth 100000 in
set_option maxHeartbeats 6400000 in
/-- works' first block: a get of 0, a put of one more into 1 -/
theorem blk14 (w : World) (hm : MemR w lo0 m cb g sc ch ws ck 0 od sb) (h : TxR w lo b m I ck R none 0 0) (hl : Lies lo m cb g sc) (hd : Deb w) (hwl : ws.length ≤ 65536) (hR : R = []) (hev : ck = 0 ∨ ck = 2 ∨ ck = 4) (hx : ws[0]? = some 5) (ha : 1 < ws.length) (h1 : 1 < lo) :
    Calls Tryz.prog 14 #[IV b] w fun e' w' => e' = .returned (.int .i64 0) ∧ ∃ I', TxR w' lo b m I' ck [((0 : Nat), 5)] (some ((1 : Nat), 6)) 0 0 ∧ MemR w' lo0 m cb g sc ch ws ck 0 od sb ∧ Below lo w w' := by
  subst hR
  have HG := Lib.hid (txGet w hm h hl hd hwl (by simp) (by simp) hev 0 5 hx)
  have HT := Lib.hid h
  have HD := Lib.hid hd
  clear hm h hd hev
  unfold IV
  go_enter Tryz.func14, Tryz.ntmps14
  go_wp2_with (go_at_call 112; refine halt_ ?_)
  refine Halt_.go ?_
  refine HG.out.mono ?_
  rintro e w1 ⟨hcase, hm1, hx1⟩
  rcases hcase with ⟨hne, _⟩ | ⟨_, rfl, I1, ht1⟩
  · exact absurd rfl hne
  have H8 := Lib.hid (num8 w1 0)
  have HP := Lib.hid (txPut w1 hm1 ht1 (HD.out.below (HT.out.blw hx1) h1) hwl 1 6 ha)
  have HM1 := Lib.hid hm1
  have HT1 := Lib.hid ht1
  have HX1 := Lib.hid hx1
  clear hm1 ht1 hx1 HG HD hx
  go_wp2_with (go_at_call 8; refine halt_ ?_)
  refine Halt_.go ?_
  refine H8.out.mono ?_
  rintro e w2 ⟨rfl, rfl⟩
  go_wp2_with (go_at_call 113; refine halt_ ?_)
  refine Halt_.go ?_
  refine HP.out.mono ?_
  rintro e w3 ⟨rfl, I3, ht3, hx3⟩
  have HT3 := Lib.hid ht3
  have HX3 := Lib.hid hx3
  clear ht3 hx3 H8 HP
  go_wp2
  go_ret
  exact ⟨rfl, I3, HT3.out, HM1.out.tx hl HT1.out HX3.out, (HT.out.blw HX1.out).trans (HT1.out.blw HX3.out)⟩
end
end Go.Proofs.YtomcobcmjocapaaGreatDoor
