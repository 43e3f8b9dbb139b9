/- Walk: the document's end [99]: where a block is over. -/
import Derived.Test.YtjifpjfinffamaaX1
namespace Go.Proofs.Ytjifpjfinffamaa
open Go.RowKit

def OverK (k : Int) : Prop := k = 6 ∨ k = 8 ∨ k = 9 ∨ k = 7
instance (k : Int) : Decidable (OverK k) := inferInstanceAs (Decidable (_ ∨ _ ∨ _ ∨ _))
/-- from place i on: the first event of the thread with which its block is over, or its last one -/
def endF (th : Int) : List Ev → Nat → Nat → Nat × Bool
  | [], _, last => (last, false)
  | e :: r, i, last => if e.th ≠ th then endF th r (i + 1) last else if OverK e.kind then (i, true) else endF th r (i + 1) i
theorem endF_step {l : List Ev} {p : Nat} {e : Ev} (he : l[p]? = some e) (th : Int) (last : Nat) : endF th (l.drop p) p last = if e.th ≠ th then endF th (l.drop (p + 1)) (p + 1) last else if OverK e.kind then (p, true) else endF th (l.drop (p + 1)) (p + 1) p := by
  obtain ⟨hp, rfl⟩ := List.getElem?_eq_some_iff.1 he
  rw [List.drop_eq_getElem_cons hp]
  rfl
theorem endF_end (th : Int) (l : List Ev) (last : Nat) : endF th (l.drop l.length) l.length last = (last, false) := by
  rw [List.drop_length]
  rfl
def endV (x : Nat × Bool) : Value := .tuple #[.int .i64 (x.1 : Int), .bool x.2]

set_option linter.unusedSimpArgs false in
set_option maxRecDepth 100000 in
set_option maxHeartbeats 3200000 in
theorem end_any (A : Option Addr) (cap : Nat) (l : List Ev) (at_ : Nat) (e0 : Ev) (w : World) (hl : l.length ≤ 1099511627776) (hat : l[at_]? = some e0) (hc : EvR w w.heap.size A l) :
    Calls Try.prog 99 #[.slice A l.length cap, .int .i64 (at_ : Int)] w fun e w' => e = .returned (endV (endF e0.th (l.drop (at_ + 1)) (at_ + 1) at_)) ∧ ∃ m, w' = w.drewN m := by
  have hal : at_ < l.length := (List.getElem?_eq_some_iff.1 hat).1
  have HC := Lib.hid hc
  have HAT := Lib.hid hat
  clear hc hat
  obtain ⟨R, hR⟩ : ∃ R, R = endF e0.th (l.drop (at_ + 1)) (at_ + 1) at_ := ⟨_, rfl⟩
  have HR := Lib.hid hR
  rw [← hR]
  clear hR
  go_enter Try.func99, Try.ntmps99
  go_wp2
  go_loopw [7, 6] (fun i v wr => ∃ (p last : Nat), p ≤ l.length ∧ i = .int .i64 p ∧ v = .int .i64 last ∧ Hid (R = endF e0.th (l.drop p) p last) ∧ ∃ m, wr = w.drewN m) (fun i _ _ => l.length - (intOf i).toNat)
  case atStart => exact ⟨at_ + 1, at_, hal, by go_num, rfl, HR, 0, rfl⟩
  case round =>
    obtain ⟨p, last, hp, rfl, rfl, HX, m, rfl⟩ := hrel
    by_cases hlt : p < l.length
    · obtain ⟨eb, eo, e, hA, heb, he, _, b0, b1, b2, b3, b4, b5⟩ := HC.out.at_ (Below.refl _ _) hlt
      subst hA
      obtain ⟨eb', eo', e', hA, _, he', _, a0, a1, a2, a3, a4, a5⟩ := HC.out.at_ (Below.refl _ _) hal
      injection hA with hA
      injection hA with h1 h2
      subst h1 h2
      have hee : e' = e0 := by
        have := he'.out.symm.trans HAT.out
        simpa using this
      subst hee
      have hst := HX.out
      rw [endF_step he.out] at hst
      obtain ⟨t, k, a, x, o, er⟩ := e
      obtain ⟨t0, k0, a0', x0, o0, er0⟩ := e'
      simp only at b0 b1 a0 hst
      have HST := Lib.hid hst
      have i1 : (0 : Int) ≤ (p : Int) := by omega
      have i2 : (p : Int) < (l.length : Int) := by omega
      have i3 : (0 : Int) ≤ (at_ : Int) := by omega
      have i4 : (at_ : Int) < (l.length : Int) := by omega
      clear hst he he' HX b2 b3 b4 b5 a1 a2 a3 a4 a5 HAT HR
      by_cases htt : t = t0
      · subst htt
        have e1 : (t != t) = false := by simp
        by_cases hk : OverK k
        · have HF := Lib.hid (show R = (p, true) by rw [HST.out, if_neg (by simp), if_pos hk])
          clear HST
          rcases hk with rfl | rfl | rfl | rfl
          all_goals
            go_wp2
            go_quiet (fail)
            go_wp2
            go_ret2
            exact ⟨by rw [HF.out]; rfl, _, rfl⟩
        · have HX2 := Lib.hid (show R = endF t (l.drop (p + 1)) (p + 1) p by rw [HST.out, if_neg (by simp), if_neg hk])
          have k6 : (k == 6) = false := by simp; exact fun e => hk (.inl e)
          have k8 : (k == 8) = false := by simp; exact fun e => hk (.inr (.inl e))
          have k9 : (k == 9) = false := by simp; exact fun e => hk (.inr (.inr (.inl e)))
          have k7 : (k == 7) = false := by simp; exact fun e => hk (.inr (.inr (.inr e)))
          clear HST hk
          go_wp2
          go_quiet (fail)
          go_wp2
          go_roundw
          case rel => exact ⟨p + 1, p, hlt, by go_num, rfl, HX2, _, rfl⟩
          case measure => simp [intOf]; omega
      · have HX2 := Lib.hid (show R = endF t0 (l.drop (p + 1)) (p + 1) last by rw [HST.out, if_pos htt])
        have e1 : (t != t0) = true := by simpa using htt
        clear HST htt
        go_wp2
        go_quiet (fail)
        go_wp2
        go_roundw
        case rel => exact ⟨p + 1, last, hlt, by go_num, rfl, HX2, _, rfl⟩
        case measure => simp [intOf]; omega
    · obtain rfl : p = l.length := by omega
      have HF := Lib.hid (show R = (last, false) by rw [HX.out, endF_end])
      clear HX
      go_wp2
      go_ret2
      exact ⟨by rw [HF.out]; rfl, m, rfl⟩
end Go.Proofs.Ytjifpjfinffamaa
