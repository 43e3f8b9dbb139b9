/- Walks: parleykit.Ints, graph.right, parleyref17.Right, parleyref17.Edges, num. -/
import Derived.Test.YtjifpjfinffamaaLib
import Derived.Deep.QuietTactic
import Derived.BigQuiet
namespace Go.Proofs.Ytjifpjfinffamaa
open Go.RowKit

def inB (n : Int) (e : E) : Bool := decide (0 ≤ min e.f e.t) && decide (max e.f e.t < n)
def rightB (n : Int) (l : List E) : Bool := l.all (inB n) && (decide (0 ≤ n) && decide (n ≤ 65536))
theorem inB_f {n f t kk : Int} (h : f < 0 ∨ t < 0 ∨ n ≤ f ∨ n ≤ t) : inB n ⟨f, t, kk⟩ = false := by
  simp only [inB, Bool.and_eq_false_iff, decide_eq_false_iff_not]; omega
theorem inB_t {n f t kk : Int} (h : ¬ (f < 0 ∨ t < 0 ∨ n ≤ f ∨ n ≤ t)) : inB n ⟨f, t, kk⟩ = true := by
  simp only [inB, Bool.and_eq_true, decide_eq_true_eq]; omega
theorem all_take_succ {α : Type} {p : α → Bool} {l : List α} {k : Nat} {x : α} (h : (l.take k).all p = true) (hx : l[k]? = some x) (hp : p x = true) : (l.take (k + 1)).all p = true := by
  rw [List.take_add_one, List.all_append, h, hx]
  simp [hp]
theorem all_false {α : Type} {p : α → Bool} {l : List α} {k : Nat} {x : α} (hx : l[k]? = some x) (hp : p x = false) : l.all p = false := by
  rw [Bool.eq_false_iff]
  intro h
  rw [List.all_eq_true] at h
  have := h x (List.mem_of_getElem? hx)
  rw [hp] at this
  cases this
theorem ret_bool {a b : Bool} (h : a = b) : Ending.returned (.bool a) = .returned (.bool b) := by rw [h]

theorem num_any (x : Int) (w : World) : Calls Try.prog 27 #[.int .i64 x] w fun e w' => e = .returned (.int .i64 x) ∧ w = w' := by
  go_enter Try.func27, Try.ntmps27
  go_wp2
  go_ret
  exact ⟨rfl, rfl⟩

set_option maxHeartbeats 400000 in
theorem right_any (n : Int) (A : Option Addr) (cap : Nat) (l : List E) (w : World) (hl : l.length ≤ 140737488351232) (hc : RE w w.heap.size A l) :
    Calls Try.prog 67 #[.int .i64 n, .slice A l.length cap] w fun e w' => e = .returned (.bool (rightB n l)) ∧ Below w.heap.size w w' := by
  go_enter Try.func67, Try.ntmps67
  go_wp2
  go_loopw [9] (fun i wr => ∃ k : Nat, k ≤ l.length ∧ i = .int .i64 k ∧ (l.take k).all (inB n) = true ∧ Below w.heap.size w wr) (fun i _ => l.length - (intOf i).toNat)
  case atStart => exact ⟨0, Nat.zero_le _, rfl, rfl, Below.refl _ _⟩
  case round =>
    obtain ⟨k, hk, rfl, hall, hbel⟩ := hrel
    have Hall := Lib.hid hall; clear hall
    by_cases hlt : k < l.length
    · obtain ⟨b, off, f, t, kk, rfl, hb, he, h1, h2, h3⟩ := hc.at_ hbel hlt
      clear hc
      by_cases hbad : f < 0 ∨ t < 0 ∨ n ≤ f ∨ n ≤ t
      · have hr : rightB n l = false := by rw [rightB, all_false he.out (inB_f hbad)]; rfl
        have Hr := Lib.hid hr; clear hr
        go_wp2
        all_goals
          go_ret
          exact ⟨ret_bool Hr.out.symm, (hbel.alloc hbel.size _)⟩
      · have hp := inB_t (kk := kk) hbad
        have Hp := Lib.hid hp; clear hp
        go_wp2
        all_goals
          go_roundw
          case rel => exact ⟨k + 1, by omega, by go_num, all_take_succ Hall.out he.out Hp.out, hbel.alloc hbel.size _⟩
          case measure => simp [intOf]; omega
    · have hkl : k = l.length := by omega
      have hr : rightB n l = (decide (0 ≤ n) && decide (n ≤ 65536)) := by
        have := Hall.out
        rw [hkl, List.take_length] at this
        rw [rightB, this, Bool.true_and]
      have Hr := Lib.hid hr
      clear hr hkl
      go_wp2
      all_goals
        go_ret
        refine ⟨ret_bool ?_, hbel⟩
        rw [Hr.out]
        simp [*]
        try omega

set_option maxHeartbeats 400000 in
theorem refRight_any (n : Int) (A : Option Addr) (cap : Nat) (l : List E) (w : World) (hl : l.length ≤ 140737488351232) (hc : RE w w.heap.size A l) :
    Calls Try.prog 70 #[.int .i64 n, .slice A l.length cap] w fun e w' => e = .returned (.bool (rightB n l)) ∧ w = w' := by
  by_cases hn : 0 ≤ n ∧ n ≤ 65536
  · obtain ⟨hn0, hn1⟩ := hn
    go_enter Try.func70, Try.ntmps70
    go_wp2
    go_loop [5] (fun i => ∃ k : Nat, k ≤ l.length ∧ i = .int .i64 k ∧ (l.take k).all (inB n) = true) (fun i => l.length - (intOf i).toNat)
    case atStart => exact ⟨0, Nat.zero_le _, rfl, rfl⟩
    case round =>
      obtain ⟨k, hk, rfl, hall⟩ := hrel
      have Hall := Lib.hid hall; clear hall
      by_cases hlt : k < l.length
      · obtain ⟨b, off, f, t, kk, rfl, hb, he, h1, h2, h3⟩ := hc.at_ (Below.refl _ _) hlt
        clear hc
        by_cases hbad : f < 0 ∨ t < 0 ∨ n ≤ f ∨ n ≤ t
        · have hr : rightB n l = false := by rw [rightB, all_false he.out (inB_f hbad)]; rfl
          have Hr := Lib.hid hr; clear hr
          go_wp2
          all_goals
            go_ret
            exact ⟨ret_bool Hr.out.symm, rfl⟩
        · have hp := inB_t (kk := kk) hbad
          have Hp := Lib.hid hp; clear hp
          go_wp2
          all_goals
            go_round
            case rel => exact ⟨k + 1, by omega, by go_num, all_take_succ Hall.out he.out Hp.out⟩
            case measure => simp [intOf]; omega
      · have hkl : k = l.length := by omega
        have hr : rightB n l = true := by
          have := Hall.out
          rw [hkl, List.take_length] at this
          rw [rightB, this, Bool.true_and]
          simp [hn0, hn1]
        have Hr := Lib.hid hr
        clear hr hkl
        go_wp2
        go_ret
        exact ⟨ret_bool Hr.out.symm, rfl⟩
  · have hr : rightB n l = false := by
      rw [rightB, Bool.and_eq_false_iff]
      right
      simp only [Bool.and_eq_false_iff, decide_eq_false_iff_not]
      omega
    have Hr := Lib.hid hr
    clear hr hc
    have hn2 : n < 0 ∨ 65536 < n := by omega
    clear hn
    rcases hn2 with hn2 | hn2
    all_goals
      go_enter Try.func70, Try.ntmps70
      go_wp2
      go_ret
      exact ⟨ret_bool Hr.out.symm, rfl⟩

def intsB (xs ys : List Int) : Bool := decide (xs = ys)
theorem intsB_len {xs ys : List Int} (h : xs.length ≠ ys.length) : intsB xs ys = false := by
  unfold intsB; rw [decide_eq_false_iff_not]; rintro rfl; exact h rfl
theorem intsB_ne {xs ys : List Int} {k : Nat} {x y : Int} (h1 : xs[k]? = some x) (h2 : ys[k]? = some y) (h : x ≠ y) : intsB xs ys = false := by
  unfold intsB; rw [decide_eq_false_iff_not]; rintro rfl; rw [h1] at h2; exact h (Option.some.inj h2)
theorem take_succ_eq {α : Type} {xs ys : List α} {k : Nat} {x : α} (h1 : xs[k]? = some x) (h2 : ys[k]? = some x) (h : xs.take k = ys.take k) : xs.take (k + 1) = ys.take (k + 1) := by
  rw [List.take_add_one, List.take_add_one, h1, h2, h]
theorem intsB_eq {xs ys : List Int} {k : Nat} (hx : xs.length = ys.length) (hk : ¬ k < xs.length) (h : xs.take k = ys.take k) : intsB xs ys = true := by
  unfold intsB
  rw [List.take_of_length_le (by omega), List.take_of_length_le (by omega)] at h
  simp [h]

set_option maxHeartbeats 400000 in
theorem ints_any (A B : Option Addr) (c d : Nat) (xs ys : List Int) (w : World) (hx : RK .i64 w w.heap.size A xs) (hy : RK .i64 w w.heap.size B ys)
    (hxl : xs.length ≤ 140737488351232) :
    Calls Try.prog 26 #[.slice A xs.length c, .slice B ys.length d] w fun e w' => e = .returned (.bool (intsB xs ys)) ∧ ∃ m, w' = w.drewN m := by
  by_cases hlen : xs.length = ys.length
  · have hne : ((xs.length : Int) != ys.length) = false := by simp [hlen]
    go_enter Try.func26, Try.ntmps26
    go_wp2
    go_loopw [5] (fun i wr => ∃ k : Nat, k ≤ xs.length ∧ i = .int .i64 k ∧ xs.take k = ys.take k ∧ ∃ m, wr = w.drewN m) (fun i _ => xs.length - (intOf i).toNat)
    case atStart => exact ⟨0, Nat.zero_le _, rfl, rfl, 0, rfl⟩
    case round =>
      obtain ⟨k, hk, rfl, heq, m, rfl⟩ := hrel
      have Heq := Lib.hid heq; clear heq
      have Hlen := Lib.hid hlen
      by_cases hlt : k < xs.length
      · obtain ⟨b, off, x, rfl, hb, hex, h1⟩ := hx.at_ (Below.refl _ _) hlt
        obtain ⟨b2, off2, y, rfl, hb2, hey, h2⟩ := hy.at_ (Below.refl _ _) (k := k) (by omega)
        have hk2 : k < ys.length := by omega
        clear hx hy hlen hne
        have i1 : (0 : Int) ≤ (k : Int) := by omega
        have i2 : (k : Int) < (xs.length : Int) := by omega
        have i3 : (k : Int) < (ys.length : Int) := by omega
        by_cases hxy : x = y
        · subst hxy
          have ht := take_succ_eq hex.out hey.out Heq.out
          have Ht := Lib.hid ht
          clear ht
          go_wp2
          go_quiet (fail)
          go_wp2
          go_roundw
          case rel => exact ⟨k + 1, by omega, by go_num, Ht.out, _, rfl⟩
          case measure => simp [intOf]; omega
        · have hr := intsB_ne hex.out hey.out hxy
          have Hr := Lib.hid hr
          clear hr
          go_wp2
          go_quiet (fail)
          go_wp2
          go_ret
          exact ⟨ret_bool Hr.out.symm, m + nq, by rw [World.drewN_drewN]⟩
      · have hr := intsB_eq Hlen.out hlt Heq.out
        have Hr := Lib.hid hr
        clear hr hlen
        go_wp2
        go_ret
        exact ⟨ret_bool Hr.out.symm, m, rfl⟩
  · have hne : ((xs.length : Int) != ys.length) = true := by simp; omega
    have hr := intsB_len hlen
    have Hr := Lib.hid hr
    clear hr
    go_enter Try.func26, Try.ntmps26
    go_wp2
    go_ret
    exact ⟨ret_bool Hr.out.symm, 0, rfl⟩

set_option maxHeartbeats 400000 in
/-- two slices that hold the same edges -/
theorem edges_same (A B : Option Addr) (c d : Nat) (l : List E) (w : World) (hx : RE w w.heap.size A l) (hy : RE w w.heap.size B l) (hl : l.length ≤ 140737488351232) :
    Calls Try.prog 72 #[.slice A l.length c, .slice B l.length d] w fun e w' => e = .returned (.bool true) ∧ ∃ m, w' = w.drewN m := by
  have hne : ((l.length : Int) != l.length) = false := by simp
  go_enter Try.func72, Try.ntmps72
  go_wp2
  go_loopw [5] (fun i wr => ∃ k : Nat, k ≤ l.length ∧ i = .int .i64 k ∧ ∃ m, wr = w.drewN m) (fun i _ => l.length - (intOf i).toNat)
  case atStart => exact ⟨0, Nat.zero_le _, rfl, 0, rfl⟩
  case round =>
    obtain ⟨k, hk, rfl, m, rfl⟩ := hrel
    by_cases hlt : k < l.length
    · obtain ⟨b, off, f, t, kk, rfl, hb, he, h1, h2, h3⟩ := hx.at_ (Below.refl _ _) hlt
      obtain ⟨b2, off2, f2, t2, kk2, rfl, hb2, he2, h4, h5, h6⟩ := hy.at_ (Below.refl _ _) hlt
      have hee : f2 = f ∧ t2 = t ∧ kk2 = kk := by
        have := he.out.symm.trans he2.out
        simp at this
        exact ⟨this.1.symm, this.2.1.symm, this.2.2.symm⟩
      obtain ⟨rfl, rfl, rfl⟩ := hee
      clear hx hy hne he he2
      have i1 : (0 : Int) ≤ (k : Int) := by omega
      have i2 : (k : Int) < (l.length : Int) := by omega
      go_wp2
      go_quiet (fail)
      go_wp2
      go_roundw
      case rel => exact ⟨k + 1, by omega, by go_num, _, rfl⟩
      case measure => simp [intOf]; omega
    · go_wp2
      go_ret
      exact ⟨rfl, m, rfl⟩
end Go.Proofs.Ytjifpjfinffamaa
