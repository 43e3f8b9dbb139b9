/- Walks: container/heap's Pop and Push, over graph.ready. -/
import Derived.Test.YtjifpjfinffamaaH3
import Derived.Test.YtjifpjfinffamaaH4
namespace Go.Proofs.Ytjifpjfinffamaa
open Go.RowKit

theorem meth_push (b o : Nat) (w : World) : (Go.method 356 126 (.pointer (some ⟨b, o, none⟩)) "Push").run Try.prog w = .ok (188, .pointer (some ⟨b, o, none⟩)) w := by kernel_rfl
theorem meth_pop (b o : Nat) (w : World) : (Go.method 356 126 (.pointer (some ⟨b, o, none⟩)) "Pop").run Try.prog w = .ok (187, .pointer (some ⟨b, o, none⟩)) w := by kernel_rfl

/-- the last one goes to the front: then the front's old number stands last -/
theorem pop_math {xs ys : List Int} {n : Nat} (hl : xs.length = n + 1) (h : HP xs (n + 1) 0) (hy : ys.Perm (swp xs 0 n)) (ht : ∀ k, n ≤ k → nth ys k = nth (swp xs 0 n) k) (hh : HP ys n 0) :
    nth ys n = nth xs 0 ∧ (nth xs 0 :: ys.take n).Perm xs ∧ HP (ys.take n) n 0 ∧ ∀ v ∈ xs, nth xs 0 ≤ v := by
  have e1 : nth ys n = nth xs 0 := by
    rw [ht n (Nat.le_refl _), swp_nth (by omega) (by omega)]
    simp
  have hyl : ys.length = n + 1 := by rw [hy.length_eq, swp_len, hl]
  refine ⟨e1, ?_, hh.congr fun k hk => ?_, fun v hv => ?_⟩
  · have hp := hy.trans (swp_perm (i := 0) (j := n) (by omega) (by omega))
    refine List.Perm.trans ?_ hp
    have : ys = ys.take n ++ [nth ys n] := by
      have h1 := List.take_append_drop n ys
      have h2 : ys.drop n = [nth ys n] := by
        rw [nth_get (by omega)]
        have := List.drop_eq_getElem_cons (l := ys) (i := n) (by omega)
        rw [this, List.drop_eq_nil_of_le (by omega)]
      rw [h2] at h1
      exact h1.symm
    rw [e1] at this
    have h3 : ys.Perm (nth xs 0 :: ys.take n) := by
      conv => lhs; rw [this]
      exact List.perm_append_singleton _ _
    exact h3.symm
  · simp [nth, List.getD, hk]
  · obtain ⟨k, hk, rfl⟩ := List.mem_iff_getElem.1 hv
    have := h.top k (by omega)
    rwa [nth_get hk] at this

def PopEnds (p : Nat) (A : Option Addr) (n c : Nat) (xs : List Int) (w : World) (e : Ending) (w' : World) : Prop :=
  ∃ (x : Int) (ys : List Int), e = .returned (.iface 3 (.int .i64 x)) ∧ HS w' p (.slice A n c) ys ∧ Moves w w' p (.slice A (n + 1) c) (.slice A n c) ∧ (x :: ys).Perm xs ∧ HP ys n 0 ∧ ∀ v ∈ xs, x ≤ v

set_option linter.unusedSimpArgs false in
set_option maxRecDepth 100000 in
set_option maxHeartbeats 1600000 in
theorem pop_any (p : Nat) (A : Option Addr) (n c : Nat) (xs : List Int) (w : World) (hs : HS w p (.slice A (n + 1) c) xs) (hlen : n + 1 ≤ 4294967296) (hp : HP xs (n + 1) 0) :
    Calls Try.prog 83 #[.iface 126 (.pointer (some ⟨p, 0, none⟩))] w (PopEnds p A n c xs w) := by
  have hl := hs.len
  have hcell := hs.cell
  have hm := meth_len p 0 w _ _ _ hcell
  have k1 : ((n + 1 : Nat) : Int) - 1 = (n : Int) := by omega
  obtain ⟨g, rfl, hpg, hcs, hfs⟩ := hs.open2 (by omega)
  have HSS := Lib.hid hs
  have HL := Lib.hid hl
  have HPP := Lib.hid hp
  clear hs hl hp hcs hfs
  go_enter Try.func83, Try.ntmps83
  go_wp2_with (go_at_call 82; refine (len_any _ (n + 1) c _).mono ?_; rintro e w1 ⟨rfl, rfl⟩)
  have hsw := meth_swap p 0 w1 _ _ _ hcell
  rw [hsw]
  go_simp
  go_at_call 186
  refine (swap_hs p g c 0 n (n + 1) xs _ HL.out HSS.out (by omega) (by omega)).mono ?_
  rintro e w2 ⟨rfl, hs2, hM2⟩
  have HS2 := Lib.hid hs2
  have HM2 := Lib.hid hM2
  clear hs2 hM2 hsw hm hcell
  go_wp2_with fail
  go_at_call 104
  refine (down_any p (some ⟨g, 0, none⟩) (n + 1) c (swp xs 0 n) 0 n 0 _ HS2.out (by omega) hlen (by omega) (Nat.le_refl _) ?_).mono ?_
  · constructor
    · intro p c hp hne hc hpc
      have := HL.out
      rw [swp_nth (by omega) (by omega), swp_nth (by omega) (by omega), if_neg (by omega), if_neg (by omega), if_neg (by omega), if_neg (by omega)]
      exact HPP.out p c hp (by omega) hpc
    · intro p c hp hj hc hpc
      omega
  rintro e w3 ⟨ys, b, rfl, hs3, hM3, hP3, hT3, hD3⟩
  obtain ⟨r1, r2, r3, r4⟩ := pop_math HL.out HPP.out hP3 hT3 hD3
  have R1 := Lib.hid r1
  have R2 := Lib.hid r2
  have R3 := Lib.hid r3
  have R4 := Lib.hid r4
  have HS3 := Lib.hid hs3
  have HM3 := Lib.hid hM3
  clear hs3 hM3 hP3 hT3 hD3 r1 r2 r3 r4
  have hpo := meth_pop p 0 w3
  go_wp2_with fail
  refine (rpop_any p _ n c ys _ HS3.out (by omega)).mono ?_
  rintro e w4 ⟨rfl, hs4, hM4⟩
  have HS4 := Lib.hid hs4
  have HM4 := Lib.hid hM4
  clear hs4 hM4 hpo
  go_wp2
  go_ret
  rw [R1.out]
  exact ⟨_, _, rfl, HS4.out, (HM2.out.trans HM3.out).trans HM4.out, R2.out, R3.out, R4.out⟩

def PushEnds (p : Nat) (A : Option Addr) (n c : Nat) (xs : List Int) (x : Int) (w : World) (e : Ending) (w' : World) : Prop :=
  ∃ (A' : Option Addr) (c' : Nat) (ys : List Int), e = .returned (.tuple #[]) ∧ HS w' p (.slice A' (n + 1) c') ys ∧ Moves w w' p (.slice A n c) (.slice A' (n + 1) c') ∧ ys.Perm (x :: xs) ∧ HP ys (n + 1) 0

set_option linter.unusedSimpArgs false in
set_option maxRecDepth 100000 in
set_option maxHeartbeats 1600000 in
theorem push_any (p : Nat) (A : Option Addr) (n c : Nat) (xs : List Int) (x : Int) (w : World) (hs : HS w p (.slice A n c) xs) (hlen : n + 1 ≤ 4294967296) (hp : HP xs n 0) :
    Calls Try.prog 84 #[.iface 126 (.pointer (some ⟨p, 0, none⟩)), .iface 3 (.int .i64 x)] w (PushEnds p A n c xs x w) := by
  have hl := hs.len
  have k1 : ((n + 1 : Nat) : Int) - 1 = (n : Int) := by omega
  have HSS := Lib.hid hs
  have HL := Lib.hid hl
  have HPP := Lib.hid hp
  clear hs hl hp
  have hpo := meth_push p 0 w
  go_enter Try.func84, Try.ntmps84
  go_wp2_with fail
  refine (rpush_any p A n c xs x _ HSS.out (by omega)).mono ?_
  rintro e w2 ⟨A2, c2, rfl, hs2, hM2⟩
  have hcell := hs2.cell
  have hm := meth_len p 0 w2 _ _ _ hcell
  have HS2 := Lib.hid hs2
  have HM2 := Lib.hid hM2
  clear hs2 hM2 hpo
  go_wp2_with (go_at_call 82; refine (len_any _ (n + 1) c2 _).mono ?_; rintro e w1 ⟨rfl, rfl⟩)
  go_at_call 105
  refine (up_any p A2 (n + 1) c2 (xs ++ [x]) n _ HS2.out hlen (by omega) (HPP.out.push x HL.out.symm)).mono ?_
  rintro e w3 ⟨ys, rfl, hs3, hM3, hP3, hD3⟩
  have HS3 := Lib.hid hs3
  have HM3 := Lib.hid hM3
  have R1 := Lib.hid (hP3.trans (List.perm_append_singleton x xs))
  have hl2 : (xs ++ [x]).length = n + 1 := by simp [HL.out]
  rw [hl2] at hD3
  have R2 := Lib.hid hD3
  clear hs3 hM3 hP3 hD3 hl2
  go_wp2
  go_end0
  exact ⟨_, _, ys, rfl, HS3.out, HM2.out.trans HM3.out, R1.out, R2.out⟩
end Go.Proofs.Ytjifpjfinffamaa
