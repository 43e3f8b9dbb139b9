/- A block's tx: Get. -/
import Derived.Test.YtomcobcmjocapaaGreatDoorP
import Derived.Deep.LoopGhost
namespace Go.Proofs.YtomcobcmjocapaaGreatDoor
open Go.RowKit Go.MuLone
section
variable {w w' : World} {lo b m : Nat} {I : TI} {sn e ov : Int} {R : List (Int × Int)} {D : Option (Int × Int)}
variable {lo0 cb g sc ch : Nat} {ws : List Int} {ck st od : Int} {sb : Bool}
theorem MemR.drewN (h : MemR w lo0 m cb g sc ch ws ck st od sb) (n : Nat) : MemR (w.drewN n) lo0 m cb g sc ch ws ck st od sb := ⟨h.blk.kept rfl, h.cel.kept rfl rfl, h.chn, h.schn, h.lch⟩
theorem TxR.drewN (h : TxR w lo b m I sn R D e ov) (n : Nat) : TxR (w.drewN n) lo b m I sn R D e ov := h.kept fun _ _ => rfl
/-- what Get ends in -/
def GetE (w : World) (lo0 lo b m cb g sc ch : Nat) (ws : List Int) (ck od : Int) (sb : Bool) (I : TI) (sn : Int) (R : List (Int × Int)) (a : Nat) (x : Int) (e' : Ending) (w' : World) : Prop :=
  ((ck ≠ sn ∧ othB R ws = true ∧ e' = .returned (.tuple #[.int .u64 0, .int .i64 8]) ∧ TxR w' lo b m I sn R none 8 0) ∨
    ((ck = sn ∨ othB R ws = false) ∧ e' = .returned (.tuple #[.int .u64 x, .int .i64 0]) ∧ ∃ I', TxR w' lo b m I' ck (R ++ [((a : Int), x)]) none 0 0)) ∧ MemR w' lo0 m cb g sc ch ws ck 0 od sb ∧ Ex w w' (TxS b I)
set_option maxRecDepth 100000 in
set_option maxHeartbeats 6400000 in
theorem txGet (w : World) (hm : MemR w lo0 m cb g sc ch ws ck 0 od sb) (h : TxR w lo b m I sn R none 0 0) (hl : Lies lo m cb g sc) (hd : Deb w) (hwl : ws.length ≤ 65536) (hRl : R.length < 1000) (hR : ∀ p ∈ R, ∃ a : Nat, p.1 = a ∧ a < ws.length) (hev : ck = 0 ∨ ck = 2 ∨ ck = 4) (a : Nat) (x : Int) (hx : ws[a]? = some x) :
    Calls Tryz.prog 112 #[.pointer (some ⟨b, 0, none⟩), .int .u64 a] w (GetE w lo0 lo b m cb g sc ch ws ck od sb I sn R a x) := by
  have ha := (List.getElem?_eq_some_iff.1 hx).1
  have HS := Lib.hid (txStands w hm h hwl a ha)
  have HI := Lib.hid (isSet w (hm.c (i := 2) (by omega)).1)
  have HG := Lib.hid (redoGet w h.red hd a)
  have c0 : w.cell? ⟨b, 0, none⟩ = some (.pointer (some ⟨m, 0, none⟩)) := (h.c (i := 0) (by omega)).1
  have c3 : w.cell? ⟨b, 3, none⟩ = some (.pointer (some ⟨I.ro, 0, none⟩)) := (h.c (i := 3) (by omega)).1
  have HM := Lib.hid hm
  have HT := Lib.hid h
  have HR := Lib.hid hR
  have HAX := Lib.hid hx
  have i9 : ¬ (R.length : Int) = 1024 := by omega
  clear hm h hR hx
  go_enter Tryz.func112, Tryz.ntmps112
  go_wp2_with (go_at_call 114; refine halt_ ?_)
  refine Halt_.go ?_
  refine HS.out.mono ?_
  rintro e' w1 ⟨rfl, rfl⟩
  go_wp2_with (go_at_call 28; refine halt_ ?_)
  refine Halt_.go ?_
  refine HI.out.mono ?_
  rintro e' w2 ⟨rfl, rfl⟩
  go_wp2_with (go_at_call 116; refine halt_ ?_)
  refine Halt_.go ?_
  refine HG.out.mono ?_
  rintro e' w3 ⟨rfl, n, rfl⟩
  clear HS HI HG c0 c3
  have HM3 := Lib.hid (HM.out.drewN n)
  have HT3 := Lib.hid (HT.out.drewN n)
  have HX3 : Hid (Ex w2 (w2.drewN n) (TxS b I)) := (Ex.refl _ _).drewN n
  clear HM HT
  generalize w2.drewN n = w3 at *
  have c2 : w3.cell? ⟨b, 2, none⟩ = some (.pointer (some ⟨I.rd, 0, none⟩)) := (HT3.out.c (i := 2) (by omega)).1
  go_wp2_with (go_at_call 117; refine halt_ ?_)
  refine Halt_.go ?_
  refine (readsLen w3 HT3.out.rds).mono ?_
  rintro e' w4 ⟨rfl, rfl⟩
  have i10 : ((R.length : Int) == 1024) = false := by simpa using i9
  go_wp2
  go_loopg [] 1 (fun g' wr => ∃ s', (s' = ck ∨ 0 < g') ∧ (s' = ck → ck = sn ∨ othB R ws = false) ∧ (s' ≠ ck → s' = sn) ∧ Hid (TxR wr lo b m I s' R none 0 0) ∧ Hid (MemR wr lo0 m cb g sc ch ws ck 0 od sb) ∧ Hid (Ex w2 wr (TxS b I)))
  case atStart => exact ⟨sn, .inr (by omega), fun h => .inl h.symm, fun _ => rfl, HT3, HM3, HX3⟩
  case round =>
    obtain ⟨s', hs1, hs2, hs3, HTr, HMr, HXr⟩ := hrel
    have c0 : wr.cell? ⟨b, 0, none⟩ = some (.pointer (some ⟨m, 0, none⟩)) := (HTr.out.c (i := 0) (by omega)).1
    have c1 : wr.cell? ⟨b, 1, none⟩ = some (.int .u64 s') := (HTr.out.c (i := 1) (by omega)).1
    have c2 : wr.cell? ⟨b, 2, none⟩ = some (.pointer (some ⟨I.rd, 0, none⟩)) := (HTr.out.c (i := 2) (by omega)).1
    have m0 : wr.cell? ⟨m, 0, none⟩ = some (.pointer (some ⟨cb, 0, none⟩)) := (HMr.out.c (i := 0) (by omega)).1
    have HLd := Lib.hid (celLoad wr HMr.out.cel a x HAX.out hwl)
    have HCk : Hid (∀ n, Calls Tryz.prog 27 #[.pointer (some ⟨m, 1, none⟩)] (wr.drewN n) fun e w' => e = .returned (.int .u64 ck) ∧ w' = wr.drewN n) := fun n => u64Load (wr.drewN n) (HMr.out.c (i := 1) (by omega)).1
    have HS1 := Lib.hid (And.intro hs1 (And.intro hs2 hs3))
    clear hs1 hs2 hs3 HT3 HM3 HX3 i9 i10
    go_wp2_with (go_at_call 68; refine halt_ ?_)
    refine Halt_.go ?_
    refine HLd.out.mono ?_
    rintro e' w5 ⟨rfl, rfl⟩
    clear HLd
    by_cases hcs : ck = s'
    · subst hcs
      go_wp2
      go_quiet ((go_at_call 27; exact Calls.quiet_of_same (HCk.out _)))
      have HMd := Lib.hid (HMr.out.drewN nq)
      have HTd := Lib.hid (HTr.out.drewN nq)
      have HXd := Lib.hid (HXr.out.drewN nq)
      have HQ := Lib.hid (HS1.out.2.1 trivial)
      clear HMr HTr HXr HCk c0 c1 c2 m0 HS1
      generalize w5.drewN nq = w6 at *
      have c2 : w6.cell? ⟨b, 2, none⟩ = some (.pointer (some ⟨I.rd, 0, none⟩)) := (HTd.out.c (i := 2) (by omega)).1
      have HAD := Lib.hid (readsAdd w6 HTd.out.rds a x (by omega))
      go_wp2_with (go_at_call 118; refine halt_ ?_)
      refine Halt_.go ?_
      refine HAD.out.mono ?_
      rintro e' w7 ⟨rfl, vR', hr, hf, hx⟩
      have HT7 := Lib.hid (HTd.out.add hr hf hx)
      have hx7 : Ex w6 w7 (TxS b I) := hx.grow fun k hk => .inr (.inl hk)
      have HM7 := Lib.hid (HMd.out.tx hl HTd.out hx7)
      have HX7 := Lib.hid (HXd.out.trans hx7 fun k _ h => h)
      clear hr hf hx hx7 HAD c2 HMd HTd HXd
      go_wp2
      go_ret2
      exact ⟨.inr ⟨HQ.out, rfl, _, HT7.out⟩, HM7.out, HX7.out⟩
    · have hne : (ck == s') = false := by simpa using hcs
      have HNE := Lib.hid hcs
      have hss : s' = sn := HS1.out.2.2 (fun h => hcs h.symm)
      have hg : 0 < gk := HS1.out.1.resolve_left fun h => hcs h.symm
      clear hcs
      go_wp2
      go_quiet ((go_at_call 27; exact Calls.quiet_of_same (HCk.out _)))
      have HMd := Lib.hid (HMr.out.drewN nq)
      have HTd := Lib.hid (HTr.out.drewN nq)
      have HXd := Lib.hid (HXr.out.drewN nq)
      clear HMr HTr HXr HCk c0 c1 c2 m0 HS1
      generalize w5.drewN nq = w6 at *
      have HV := Lib.hid (txValid w6 HMd.out HTd.out hwl (by omega) HR.out hev)
      go_wp2_with (go_at_call 45; refine halt_ ?_)
      refine Halt_.go ?_
      refine HV.out.mono ?_
      rintro e' w7 (⟨ho, rfl, hb⟩ | ⟨ho, rfl, ht, hx⟩)
      · have HO := Lib.hid ho
        have hx7 : Ex w6 w7 (TxS b I) := Ex.of_below hb
        have HT7 := Lib.hid (HTd.out.kept fun k hk => hb.block k (HTd.out.lt hk).2)
        have HM7 := Lib.hid (HMd.out.tx hl HTd.out hx7)
        have HX7 := Lib.hid (HXd.out.trans hx7 fun k _ h => h)
        have HRf := Lib.hid (txRefuse w7 HT7.out 8)
        clear ho hb hx7 HV HMd HTd HXd
        go_wp2_with (go_at_call 115; refine halt_ ?_)
        refine Halt_.go ?_
        refine HRf.out.mono ?_
        rintro e' w8 ⟨rfl, rfl⟩
        go_wp2
        go_ret2
        have HT8 := HT7.out.setE 8
        have hx8 : Ex w7 (w7.setCell ⟨b, 4, none⟩ (.int .i64 8)) (TxS b I) := (Ex.refl w7 _).set _ _ fun _ => .inl rfl
        refine ⟨.inl ⟨fun h => HNE.out (h.trans hss.symm), HO.out, rfl, ?_⟩, HM7.out.tx hl HT7.out hx8, HX7.out.trans hx8 fun k _ h => h⟩
        rw [← hss]
        exact HT8
      · have HO := Lib.hid ho
        have hx7 : Ex w6 w7 (TxS b I) := hx.grow fun k hk => .inl hk
        have HT7 := Lib.hid ht
        have HM7 := Lib.hid (HMd.out.tx hl HTd.out hx7)
        have HX7 := Lib.hid (HXd.out.trans hx7 fun k _ h => h)
        clear ho ht hx hx7 HV HMd HTd HXd
        go_wp2
        go_roundg 0
        case measure => exact hg
        case rel => exact ⟨ck, .inl rfl, fun _ => .inr HO.out, fun h => absurd rfl h, HT7, HM7, HX7⟩
end
end Go.Proofs.YtomcobcmjocapaaGreatDoor
