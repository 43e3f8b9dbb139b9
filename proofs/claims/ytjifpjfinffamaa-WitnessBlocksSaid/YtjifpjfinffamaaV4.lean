/- Walks: the document's events: own. -/
import Derived.Test.YtjifpjfinffamaaV3
namespace Go.Proofs.Ytjifpjfinffamaa
open Go.RowKit

theorem RP.keep {w w' : World} {B : Nat} {A : Option Addr} {l : List (Int × Int)} (h : RP w B A l) (hk : ∀ p : Addr, p.block < B → w'.cell? p = w.cell? p) : RP w' B A l := fun hn => by
  obtain ⟨b, off, e, hb, hc⟩ := h hn
  exact ⟨b, off, e, hb, fun i hi => ⟨(hk ⟨b, off + i * 2, none⟩ hb).trans (hc i hi).1, (hk ⟨b, off + i * 2 + 1, none⟩ hb).trans (hc i hi).2⟩⟩
theorem RP.more {w : World} {B B' : Nat} {A : Option Addr} {l : List (Int × Int)} (h : RP w B A l) (hB : B ≤ B') : RP w B' A l := fun hn => by
  obtain ⟨b, off, e, hb, hc⟩ := h hn
  exact ⟨b, off, e, by omega, hc⟩
theorem RP.below {w w' : World} {B : Nat} {A : Option Addr} {l : List (Int × Int)} (h : RP w B A l) (hb : Below B w w') : RP w' B A l := h.keep fun _ hp => hb.cell hp

set_option linter.unusedSimpArgs false in
set_option maxRecDepth 100000 in
set_option maxHeartbeats 3200000 in
theorem own_any (b th : Nat) (s : SS) (A : Nat → Option Addr) (c : Nat → Nat) (e : Ev) (w : World) (hth : e.th.toNat = th) (h8 : th < 8) (hs : WldC w b s A c) (hb : b < w.heap.size) (hl : (s.t th).wr.length ≤ 1099511627776) (hr : RP w w.heap.size (A th) (s.t th).wr) :
    Calls Try.prog 115 #[.pointer (some ⟨b, th * 3, none⟩), evV e] w fun e' w' => e' = .returned (.bool (ownB s e)) ∧ Below w.heap.size w w' := by
  obtain ⟨t, k, a, x, o, er⟩ := e
  simp only at hth
  have key : ownB s ⟨t, k, a, x, o, er⟩ = if k = 2 then (match wrt (s.t th).wr a with | none => !o | some y => o && y == x)
      else if k = 5 then decide (0 < (s.t th).wr.length)
      else if k = 6 then decide ((s.t th).how = 2) || decide ((s.t th).wr.length = 0)
      else true := by simp only [ownB, hth]; rfl
  have KEY := Lib.hid key
  have hal : ∀ p : Addr, p.block = b → (w.alloc (.cells #[.int .i64 t, .int .i64 k, .int .u64 a, .int .u64 x, .bool o, .int .i64 er] 97)).cell? p = w.cell? p := fun p hp => World.cell?_alloc_lt w _ p (by omega)
  have h1 := (hs.keep hal).how th h8
  have h2 := (hs.keep hal).wr th h8
  have HB := Lib.hid ((Below.refl w.heap.size w).alloc (Nat.le_refl _) (.cells #[.int .i64 t, .int .i64 k, .int .u64 a, .int .u64 x, .bool o, .int .i64 er] 97))
  show Calls Try.prog 115 #[.pointer (some ⟨b, th * 3, none⟩), .agg #[.int .i64 t, .int .i64 k, .int .u64 a, .int .u64 x, .bool o, .int .i64 er]] w fun e' w' => e' = .returned (.bool (ownB s ⟨t, k, a, x, o, er⟩)) ∧ Below w.heap.size w w'
  generalize ownB s ⟨t, k, a, x, o, er⟩ = res at *
  generalize (s.t th).how = hw at *
  generalize (s.t th).wr = wr at *
  generalize A th = Aw at *
  generalize c th = cw at *
  have HS := Lib.hid hs
  have HR := Lib.hid (fun (n : Nat) => written_any Aw cw wr a ((w.alloc (.cells #[.int .i64 t, .int .i64 k, .int .u64 a, .int .u64 x, .bool o, .int .i64 er] 97)).drewN n) hl ((hr.below (bdrewN HB.out n)).more (bdrewN HB.out n).size))
  clear hs key hal hth hr
  go_enter Try.func115, Try.ntmps115
  by_cases k2 : k = 2
  · subst k2
    rw [if_pos rfl] at KEY
    have hrr := HR.out
    cases q : wrt wr a with
    | none =>
      rw [q] at KEY hrr
      rw [← wrtV_none] at hrr
      clear HR
      cases o with
      | false =>
        go_wp2
        go_quiet (first | (go_at_call 136; exact Calls.quiet_of_same (hrr _)))
        go_wp2
        go_ret
        exact ⟨by rw [KEY.out]; rfl, bdrewN HB.out _⟩
      | true =>
        go_wp2
        go_quiet (first | (go_at_call 136; exact Calls.quiet_of_same (hrr _)))
        go_wp2
        go_ret
        exact ⟨by rw [KEY.out]; rfl, bdrewN HB.out _⟩
    | some y =>
      rw [q] at KEY hrr
      rw [← wrtV_some] at hrr
      clear HR
      cases o with
      | false =>
        go_wp2
        go_quiet (first | (go_at_call 136; exact Calls.quiet_of_same (hrr _)))
        go_wp2
        go_ret
        exact ⟨by rw [KEY.out]; rfl, bdrewN HB.out _⟩
      | true =>
        go_wp2
        go_quiet (first | (go_at_call 136; exact Calls.quiet_of_same (hrr _)))
        go_wp2
        go_ret
        exact ⟨by rw [KEY.out]; rfl, bdrewN HB.out _⟩
  · rw [if_neg k2] at KEY
    clear HR
    by_cases k5 : k = 5
    · subst k5
      rw [if_pos rfl] at KEY
      go_wp2
      go_ret
      exact ⟨by rw [KEY.out]; first | rfl | (congr 2; rw [Bool.eq_iff_iff]; simp; omega) | simp, HB.out⟩
    · rw [if_neg k5] at KEY
      by_cases k6 : k = 6
      · subst k6
        rw [if_pos rfl] at KEY
        by_cases h2 : hw = 2
        · subst h2
          go_wp2
          go_ret
          exact ⟨by rw [KEY.out]; rfl, HB.out⟩
        · have e2 : (hw == 2) = false := by simpa using h2
          have HX := Lib.hid (show res = decide (wr.length = 0) by rw [KEY.out]; simp [h2])
          clear h2
          go_wp2
          go_ret
          exact ⟨by rw [HX.out]; refine congrArg (fun b => Ending.returned (Value.bool b)) (?_ : ((wr.length : Int) == 0) = decide (wr.length = 0)); rw [Bool.eq_iff_iff]; simp, HB.out⟩
      · rw [if_neg k6] at KEY
        have e2 : (k == 2) = false := by simpa using k2
        have e5 : (k == 5) = false := by simpa using k5
        have e6 : (k == 6) = false := by simpa using k6
        clear k2 k5 k6
        go_wp2
        go_ret
        exact ⟨by rw [KEY.out]; rfl, HB.out⟩
end Go.Proofs.Ytjifpjfinffamaa
