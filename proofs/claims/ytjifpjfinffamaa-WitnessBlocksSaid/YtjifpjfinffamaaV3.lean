/- Walks: the document's events: written, locked, number, own. -/
import Derived.Test.YtjifpjfinffamaaV2
namespace Go.Proofs.Ytjifpjfinffamaa
open Go.RowKit

/-- the slice's address leads to pairs of words -/
def RP (w : World) (B : Nat) (A : Option Addr) (l : List (Int × Int)) : Prop :=
  0 < l.length → ∃ b off, A = some ⟨b, off, none⟩ ∧ b < B ∧ ∀ i (h : i < l.length), w.cell? ⟨b, off + i * 2, none⟩ = some (.int .u64 l[i].1) ∧ w.cell? ⟨b, off + i * 2 + 1, none⟩ = some (.int .u64 l[i].2)
theorem wrt_take {l : List (Int × Int)} {k : Nat} {p : Int × Int} (h : l[k]? = some p) (a : Int) : wrt (l.take (k + 1)) a = if p.1 = a then some p.2 else wrt (l.take k) a := by
  rw [List.take_add_one, h]
  obtain ⟨x, y⟩ := p
  exact wrt_snoc _ x y a

def wrtV (r : Option Int) : Value := .tuple #[.int .u64 (r.getD 0), .bool r.isSome]
theorem wrtV_some (x : Int) : Value.tuple #[.int .u64 x, .bool true] = wrtV (some x) := rfl
theorem wrtV_none : Value.tuple #[.int .u64 0, .bool false] = wrtV none := rfl
set_option maxRecDepth 100000 in
theorem written_any (A : Option Addr) (c : Nat) (l : List (Int × Int)) (a : Int) (w : World) (hl : l.length ≤ 1099511627776) (hr : RP w w.heap.size A l) :
    Calls Try.prog 136 #[.slice A l.length c, .int .u64 a] w fun e w' => e = .returned (wrtV (wrt l a)) ∧ w' = w := by
  go_enter Try.func136, Try.ntmps136
  go_wp2
  go_loopw [6] (fun i wr => ∃ k : Nat, k ≤ l.length ∧ i = .int .i64 ((k : Int) - 1) ∧ Hid (wrt l a = wrt (l.take k) a) ∧ wr = w) (fun i _ => (intOf i + 1).toNat)
  case atStart => exact ⟨l.length, Nat.le_refl _, rfl, Lib.hid (by rw [List.take_length]), rfl⟩
  case round =>
    obtain ⟨k, hk, rfl, HW, rfl⟩ := hrel
    cases k with
    | zero =>
      have HF := Lib.hid (show wrt l a = none from HW.out.trans rfl)
      clear HW
      go_wp2
      go_ret2
      exact ⟨by rw [HF.out]; rfl, rfl⟩
    | succ k =>
      obtain ⟨b, off, rfl, hb, hc⟩ := hr (by omega)
      have hkl : k < l.length := by omega
      obtain ⟨h1, h2⟩ := hc k hkl
      have hp : l[k]? = some l[k] := List.getElem?_eq_getElem hkl
      have hw := HW.out
      rw [wrt_take hp] at hw
      generalize l[k] = p at *
      obtain ⟨x, y⟩ := p
      simp only at h1 h2 hw
      have i1 : (((k + 1 : Nat) : Int) - 1) = (k : Int) := by omega
      have i2 : (0 : Int) ≤ (k : Int) := by omega
      have i3 : (k : Int) < (l.length : Int) := by omega
      rw [i1]
      by_cases hxa : x = a
      · subst hxa
        rw [if_pos rfl] at hw
        have HF := Lib.hid hw
        clear hw HW hp hc hr
        go_wp2
        go_ret2
        exact ⟨by rw [HF.out]; rfl, rfl⟩
      · rw [if_neg hxa] at hw
        have HW2 := Lib.hid hw
        have e1 : (x == a) = false := by simpa using hxa
        clear hw HW hp hc hr hxa
        go_wp2
        go_roundw
        case rel => exact ⟨k, by omega, by go_num, HW2, trivial⟩
        case measure => simp [intOf]

/-- a World in block b -/
structure WldC (w : World) (b : Nat) (s : SS) (A : Nat → Option Addr) (c : Nat → Nat) : Prop where
  how : ∀ i, i < 8 → w.cell? ⟨b, i * 3, none⟩ = some (.int .i64 (s.t i).how)
  snap : ∀ i, i < 8 → w.cell? ⟨b, i * 3 + 1, none⟩ = some (.int .u64 (s.t i).snap)
  wr : ∀ i, i < 8 → w.cell? ⟨b, i * 3 + 2, none⟩ = some (.slice (A i) (s.t i).wr.length (c i))
  num : w.cell? ⟨b, 24, none⟩ = some (.int .u64 s.num)
theorem WldC.keep {w w' : World} {b : Nat} {s : SS} {A : Nat → Option Addr} {c : Nat → Nat} (h : WldC w b s A c) (hk : ∀ p : Addr, p.block = b → w'.cell? p = w.cell? p) : WldC w' b s A c :=
  ⟨fun i hi => (hk ⟨b, i * 3, none⟩ rfl).trans (h.how i hi), fun i hi => (hk ⟨b, i * 3 + 1, none⟩ rfl).trans (h.snap i hi), fun i hi => (hk ⟨b, i * 3 + 2, none⟩ rfl).trans (h.wr i hi), (hk ⟨b, 24, none⟩ rfl).trans h.num⟩
set_option maxRecDepth 100000 in
theorem locked_any (b th : Nat) (s : SS) (A : Nat → Option Addr) (c : Nat → Nat) (w : World) (hs : WldC w b s A c) :
    Calls Try.prog 113 #[.pointer (some ⟨b, 0, none⟩), .int .i64 th] w fun e w' => e = .returned (.bool (lockedB s th)) ∧ w' = w := by
  have HS := Lib.hid hs
  clear hs
  go_enter Try.func113, Try.ntmps113
  go_wp2
  go_loopw [5] (fun i wr => ∃ k : Nat, k ≤ 8 ∧ i = .int .i64 k ∧ Hid (∀ j, j < k → ¬ (j ≠ th ∧ (s.t j).how = 2)) ∧ wr = w) (fun i _ => 8 - (intOf i).toNat)
  case atStart => exact ⟨0, by omega, rfl, Lib.hid fun j hj => absurd hj (Nat.not_lt_zero _), rfl⟩
  case round =>
    obtain ⟨k, hk, rfl, HW, rfl⟩ := hrel
    by_cases hk8 : k < 8
    · have h1 := HS.out.how k hk8
      have i1 : (0 : Int) ≤ (k : Int) := by omega
      have i2 : (k : Int) < 8 := by omega
      have HN := Lib.hid (fun (h : ¬ (k ≠ th ∧ (s.t k).how = 2)) => show ∀ j, j < k + 1 → ¬ (j ≠ th ∧ (s.t j).how = 2) from fun j hj => by
        rcases Nat.lt_or_eq_of_le (Nat.lt_succ_iff.1 hj) with h2 | rfl
        · exact HW.out j h2
        · exact h)
      by_cases ht : k = th
      · have e1 : ((k : Int) != (th : Int)) = false := by simp; omega
        have HN2 := Lib.hid (HN.out fun h => h.1 ht)
        clear ht
        go_wp2
        go_roundw
        case rel => exact ⟨k + 1, hk8, by go_num, HN2, trivial⟩
        case measure => simp [intOf]; omega
      · have e1 : ((k : Int) != (th : Int)) = true := by simp; omega
        by_cases h2 : (s.t k).how = 2
        · have hx : lockedB s th = true := by
            unfold lockedB
            rw [List.any_eq_true]
            exact ⟨k, List.mem_range.2 hk8, by simp [ht, h2]⟩
          have HX := Lib.hid hx
          have e2 : ((s.t k).how == 2) = true := by simpa using h2
          generalize (s.t k).how = z at *
          clear HN HW hx h2 ht
          go_wp2
          go_ret
          exact ⟨by rw [HX.out]; rfl, rfl⟩
        · have HN2 := Lib.hid (HN.out fun h => h2 h.2)
          have e2 : ((s.t k).how == 2) = false := by simpa using h2
          clear HN
          generalize (s.t k).how = z at *
          clear ht h2
          go_wp2
          go_roundw
          case rel => exact ⟨k + 1, hk8, by go_num, HN2, trivial⟩
          case measure => simp [intOf]; omega
    · have hx : lockedB s th = false := by
        unfold lockedB
        rw [List.any_eq_false]
        intro j hj
        have := HW.out j (by have := List.mem_range.1 hj; omega)
        simpa using this
      obtain rfl : k = 8 := by omega
      have HX := Lib.hid hx
      clear HW hx
      go_wp2
      go_ret
      exact ⟨by rw [HX.out]; rfl, rfl⟩

set_option linter.unusedSimpArgs false in
set_option maxRecDepth 100000 in
set_option maxHeartbeats 3200000 in
theorem number_any (b th : Nat) (s : SS) (A : Nat → Option Addr) (c : Nat → Nat) (e : Ev) (w : World) (hth : e.th.toNat = th) (h8 : th < 8) (hs : WldC w b s A c) (hb : b < w.heap.size) (hsn : 0 ≤ (s.t th).snap ∧ (s.t th).snap < 18446744073709551616) :
    Calls Try.prog 114 #[.pointer (some ⟨b, 0, none⟩), .pointer (some ⟨b, th * 3, none⟩), evV e] w fun e' w' => e' = .returned (.bool (numB s e)) ∧ Below w.heap.size w w' := by
  obtain ⟨t, k, a, x, o, er⟩ := e
  simp only at hth
  have key : numB s ⟨t, k, a, x, o, er⟩ = if k = 1 then x == two s.num
      else if k = 4 then x == two s.num && decide ((s.t th).snap < x)
      else if k = 5 then (s.t th).snap == two s.num
      else if k = 6 then (if (s.t th).how = 2 then x == IntKind.u64.wrap (s.num + 1) else x == (s.t th).snap / 2)
      else true := by simp only [numB, hth]
  have KEY := Lib.hid key
  have hal : ∀ p : Addr, p.block = b → (w.alloc (.cells #[.int .i64 t, .int .i64 k, .int .u64 a, .int .u64 x, .bool o, .int .i64 er] 97)).cell? p = w.cell? p := fun p hp => World.cell?_alloc_lt w _ p (by omega)
  have h1 := (hs.keep hal).how th h8
  have h2 := (hs.keep hal).snap th h8
  have h3 := (hs.keep hal).num
  show Calls Try.prog 114 #[.pointer (some ⟨b, 0, none⟩), .pointer (some ⟨b, th * 3, none⟩), .agg #[.int .i64 t, .int .i64 k, .int .u64 a, .int .u64 x, .bool o, .int .i64 er]] w fun e' w' => e' = .returned (.bool (numB s ⟨t, k, a, x, o, er⟩)) ∧ Below w.heap.size w w'
  generalize numB s ⟨t, k, a, x, o, er⟩ = res at *
  unfold two at KEY
  generalize (s.t th).how = hw at *
  generalize (s.t th).snap = sn at *
  generalize s.num = nm at *
  have HS := Lib.hid hs
  have hdiv : sn.tdiv 2 = sn / 2 := Int.tdiv_eq_ediv_of_nonneg hsn.1
  have HD := Lib.hid hdiv
  have n1 : (0 : Int) ≤ sn := hsn.1
  have n2 : sn < 18446744073709551616 := hsn.2
  clear hs key hal hth hdiv hsn
  have HB := Lib.hid ((Below.refl w.heap.size w).alloc (Nat.le_refl _) (.cells #[.int .i64 t, .int .i64 k, .int .u64 a, .int .u64 x, .bool o, .int .i64 er] 97))
  go_enter Try.func114, Try.ntmps114
  by_cases k1 : k = 1
  · subst k1
    rw [if_pos rfl] at KEY
    go_wp2
    go_quiet (fail)
    go_wp2
    go_ret
    exact ⟨by rw [KEY.out]; rfl, bdrewN HB.out _⟩
  · rw [if_neg k1] at KEY
    by_cases k4 : k = 4
    · subst k4
      rw [if_pos rfl] at KEY
      cases q : (x == IntKind.u64.wrap (2 * nm)) with
      | false =>
        rw [q] at KEY
        go_wp2
        go_quiet (fail)
        go_wp2
        go_ret
        exact ⟨by rw [KEY.out]; rfl, bdrewN HB.out _⟩
      | true =>
        rw [q] at KEY
        go_wp2
        go_quiet (fail)
        go_wp2
        go_ret
        exact ⟨by rw [KEY.out]; rfl, bdrewN HB.out _⟩
    · rw [if_neg k4] at KEY
      by_cases k5 : k = 5
      · subst k5
        rw [if_pos rfl] at KEY
        go_wp2
        go_quiet (fail)
        go_wp2
        go_ret
        exact ⟨by rw [KEY.out]; rfl, bdrewN HB.out _⟩
      · rw [if_neg k5] at KEY
        by_cases k6 : k = 6
        · subst k6
          rw [if_pos rfl] at KEY
          by_cases h2 : hw = 2
          · subst h2
            rw [if_pos rfl] at KEY
            go_wp2
            go_quiet (fail)
            go_wp2
            go_ret
            exact ⟨by rw [KEY.out]; rfl, bdrewN HB.out _⟩
          · rw [if_neg h2] at KEY
            have e2 : (hw == 2) = false := by simpa using h2
            clear h2
            go_wp2
            go_quiet (fail)
            go_wp2
            go_ret
            exact ⟨by rw [KEY.out]; rfl, bdrewN HB.out _⟩
        · rw [if_neg k6] at KEY
          have e1 : (k == 1) = false := by simpa using k1
          have e4 : (k == 4) = false := by simpa using k4
          have e5 : (k == 5) = false := by simpa using k5
          have e6 : (k == 6) = false := by simpa using k6
          clear k1 k4 k5 k6
          go_wp2
          go_ret
          exact ⟨by rw [KEY.out]; rfl, HB.out⟩
end Go.Proofs.Ytjifpjfinffamaa
