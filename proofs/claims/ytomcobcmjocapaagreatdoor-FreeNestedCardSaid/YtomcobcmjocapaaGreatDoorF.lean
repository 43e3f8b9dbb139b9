/- The hash table's look. -/
import Derived.Test.YtomcobcmjocapaaGreatDoorE
import Derived.Handy
namespace Go.Proofs.YtomcobcmjocapaaGreatDoor
open Go.RowKit
/-- math/bits.deBruijn64tab's cell 7 -/
def Deb (w : World) : Prop := w.cell? ⟨1, 7, none⟩ = some (.int .u8 3)
theorem Deb.ex {w w' : World} {S : Nat → Prop} (h : Deb w) (hx : Ex w w' S) (hs : ¬ S 1) : Deb w' := by
  have hl : (1 : Nat) < w.heap.size := World.block_lt_of_cell? w ⟨1, 7, none⟩ h
  exact (hx.cell (p := ⟨1, 7, none⟩) hl hs).trans h
def dbx : Int := IntKind.u64.wrap (bits BinOp.and .u64 8 (IntKind.u64.wrap (-8)) * 285870213051353865) / 288230376151711744
theorem dbx_eq : dbx = 7 := by decide +kernel
set_option maxRecDepth 100000 in
set_option maxHeartbeats 1600000 in
theorem tz64 (w : World) (h : Deb w) :
    Calls Tryz.prog 95 #[.int .u64 8] w fun e w' => e = .returned (.int .i64 3) ∧ w' = w := by
  have hc : w.cell? ⟨1, (IntKind.u64.wrap (bits BinOp.and .u64 8 (IntKind.u64.wrap (-8)) * 285870213051353865) / 288230376151711744).toNat, none⟩ = some (.int .u8 3) := by
    have := dbx_eq
    unfold dbx at this
    rw [this]
    exact h
  have h1 : 0 ≤ IntKind.u64.wrap (bits BinOp.and .u64 8 (IntKind.u64.wrap (-8)) * 285870213051353865) / 288230376151711744 := by decide +kernel
  have h2 : IntKind.u64.wrap (bits BinOp.and .u64 8 (IntKind.u64.wrap (-8)) * 285870213051353865) / 288230376151711744 < 64 := by decide +kernel
  go_enter Tryz.func95, Tryz.ntmps95
  go_wp2
  go_ret
  exact ⟨rfl, rfl⟩
/-- a key's home -/
def hmI (a : Int) : Int := IntKind.u64.wrap (a * 11400714819323198485) / 2305843009213693952
theorem hm_lt (a : Int) : 0 ≤ hmI a ∧ hmI a < 8 := by
  unfold hmI
  rw [IntKind.wrap_u64]
  omega
set_option maxRecDepth 100000 in
set_option maxHeartbeats 1600000 in
theorem home_any (a : Nat) (w : World) (h : Deb w) :
    Calls Tryz.prog 71 #[.int .u64 a, .int .i64 8] w fun e w' => e = .returned (.int .i64 (hmI a)) ∧ w' = w := by
  have HT := Lib.hid (tz64 w h)
  have i1 := hm_lt a
  have HH : Hid (hmI a = IntKind.u64.wrap ((a : Int) * 11400714819323198485) / 2305843009213693952) := rfl
  clear h
  go_enter Tryz.func71, Tryz.ntmps71
  go_wp2_with (first | (go_at_call 95; refine halt_ ?_) | (go_at_call 86; go_in))
  refine Halt_.go ?_
  refine HT.out.mono ?_
  rintro e w' ⟨rfl, rfl⟩
  go_wp2
  go_ret
  refine ⟨?_, rfl⟩
  have hw : wrap64 (hmI a) = hmI a := by
    have := hm_lt (a : Int)
    go_arith
  rw [← HH.out, hw]
  rfl
theorem nil132 (b n c : Nat) (w : World) : (binOp .neq 132 (.slice (some ⟨b, 0, none⟩) n c) (.slice none 0 0)).run Tryz.prog w = .ok (.bool true) w := by kernel_rfl
/-- the slots: none is used, or the one of key a -/
def slotV (D : Option Int) (i : Nat) : List Value := if D.map hmI = some (i : Int) then [.bool true, .int .u64 (D.getD 0), .int .i64 0] else [.bool false, .int .u64 0, .int .i64 0]
def slotL (D : Option Int) : List Value := (List.range 8).flatMap (slotV D)
def keyL (D : Option Int) : List Value := match D with | none => [] | some a => [.int .u64 a]
theorem sl_len (D : Option Int) : ∀ n, ((List.range n).flatMap (slotV D)).length = n * 3 := by
  intro n
  induction n with
  | zero => rfl
  | succ n ih =>
    have h3 : (slotV D n).length = 3 := by unfold slotV; split <;> rfl
    rw [List.range_succ, List.flatMap_append, List.length_append, ih]
    simp [h3]
    omega
theorem slotL_at (D : Option Int) {j : Nat} (hj : j < 8) {t : Nat} (ht : t < 3) : (slotL D)[j * 3 + t]? = (slotV D j)[t]? := by
  unfold slotL
  have key : ∀ (n : Nat), ∀ j < n, ((List.range n).flatMap (slotV D))[j * 3 + t]? = (slotV D j)[t]? := by
    intro n
    induction n with
    | zero => intro j hj; omega
    | succ n ih =>
      intro j hj
      have hlen : ((List.range n).flatMap (slotV D)).length = n * 3 := sl_len D n
      rw [List.range_succ, List.flatMap_append]
      by_cases h : j < n
      · rw [List.getElem?_append_left (by rw [hlen]; omega)]
        exact ih j h
      · have : j = n := by omega
        subst this
        rw [List.getElem?_append_right (by rw [hlen]; omega), hlen, Nat.add_sub_cancel_left]
        simp
  exact key 8 j hj
theorem slotL_len (D : Option Int) : (slotL D).length = 24 := sl_len D 8
/-- a hash table with no key or one -/
structure TabR (w : World) (lo tb sg : Nat) (vK : Value) (D : Option Int) : Prop where
  blk : Blk w lo 134 tb 2 (fun i => if i = 0 then .slice (some ⟨sg, 0, none⟩) 8 8 else vK)
  row : w.ownsRow lo 138 3 (.slice (some ⟨sg, 0, none⟩) 8 8) 8 (slotL D)
  keys : w.ownsRow lo 23 1 vK (keyL D).length (keyL D)
section
variable {w w' : World} {lo tb sg : Nat} {vK : Value} {D : Option Int}
theorem TabR.c0 (h : TabR w lo tb sg vK D) : w.cell? ⟨tb, 0, none⟩ = some (.slice (some ⟨sg, 0, none⟩) 8 8) ∧ w.frozen? ⟨tb, 0, none⟩ = false := h.blk.cell (j := 0) (by omega)
theorem TabR.c1 (h : TabR w lo tb sg vK D) : w.cell? ⟨tb, 1, none⟩ = some vK ∧ w.frozen? ⟨tb, 1, none⟩ = false := h.blk.cell (j := 1) (by omega)
theorem TabR.slot (h : TabR w lo tb sg vK D) {j : Nat} (hj : j < 8) {t : Nat} (ht : t < 3) {v : Value} (hv : (slotV D j)[t]? = some v) : w.cell? ⟨sg, j * 3 + t, none⟩ = some v ∧ w.frozen? ⟨sg, j * 3 + t, none⟩ = false := by
  refine ⟨?_, h.row.frozenAt _⟩
  rw [h.row.cellAt (j * 3 + t) (by omega), slotL_at D hj ht, hv]
theorem TabR.lt (h : TabR w lo tb sg vK D) : lo ≤ tb ∧ tb < w.heap.size ∧ lo ≤ sg ∧ sg < w.heap.size := ⟨h.blk.lt.1, h.blk.lt.2, World.ownsRow.lt h.row sg rfl⟩
theorem TabR.kept (h : TabR w lo tb sg vK D) (hk : ∀ k, lo ≤ k → k < w.heap.size → w'.heap[k]? = w.heap[k]?) : TabR w' lo tb sg vK D :=
  ⟨h.blk.kept (hk _ h.lt.1 h.lt.2.1), own_keep h.row fun k hk' => hk _ (World.ownsRow.lt h.row k hk').1 (World.ownsRow.lt h.row k hk').2, own_keep h.keys fun k hk' => hk _ (World.ownsRow.lt h.keys k hk').1 (World.ownsRow.lt h.keys k hk').2⟩
set_option maxRecDepth 100000 in
set_option maxHeartbeats 1600000 in
theorem tabMade (w : World) (h : TabR w lo tb sg vK D) :
    Calls Tryz.prog 85 #[.pointer (some ⟨tb, 0, none⟩)] w fun e w' => e = .returned (.bool true) ∧ w' = w := by
  have c0 := h.c0.1
  have hn := nil132 sg 8 8 w
  go_enter Tryz.func85, Tryz.ntmps85
  go_wp2
  go_ret
  exact ⟨rfl, rfl⟩
set_option maxRecDepth 100000 in
set_option maxHeartbeats 1600000 in
/-- the look for a key: at its home -/
theorem tabLook (w : World) (h : TabR w lo tb sg vK D) (hd : Deb w) (a : Nat) (hD : D = none ∨ D = some (a : Int)) :
    Calls Tryz.prog 70 #[.pointer (some ⟨tb, 0, none⟩), .int .u64 a] w fun e w' => e = .returned (.tuple #[.int .i64 (hmI a), .int .i64 1]) ∧ w' = w := by
  have c0 := h.c0.1
  obtain ⟨j, hj⟩ := Int.eq_ofNat_of_zero_le (hm_lt a).1
  have hj8 : j < 8 := by have := (hm_lt a).2; omega
  have HT := Lib.hid (home_any a w hd)
  rw [hj] at HT
  rw [hj]
  have s0 : w.cell? ⟨sg, j * 3, none⟩ = some (.bool D.isSome) := by
    refine (h.slot hj8 (t := 0) (by omega) ?_).1
    rcases hD with rfl | rfl
    · rfl
    · simp [slotV, hj]
  have s1 : D = some (a : Int) → w.cell? ⟨sg, j * 3 + 1, none⟩ = some (.int .u64 a) := by
    rintro rfl
    refine (h.slot hj8 (t := 1) (by omega) ?_).1
    simp [slotV, hj]
  have i1 : (0 : Int) ≤ (j : Int) := by omega
  have i2 : (j : Int) < 8 := by omega
  clear h hj
  rcases hD with rfl | rfl
  · clear s1
    simp only [Option.isSome_none] at s0
    go_enter Tryz.func70, Tryz.ntmps70
    go_wp2
    go_step3
    go_wp2_with (go_at_call 71; refine halt_ ?_)
    refine Halt_.go ?_
    refine HT.out.mono ?_
    rintro e w' ⟨rfl, rfl⟩
    go_wp2
    go_step3
    go_wp2
    simp only [Exit.noGoto]
    go_ret2
    exact ⟨rfl, rfl⟩
  · have s2 := s1 rfl
    clear s1
    simp only [Option.isSome_some] at s0
    go_enter Tryz.func70, Tryz.ntmps70
    go_wp2
    go_step3
    go_wp2_with (go_at_call 71; refine halt_ ?_)
    refine Halt_.go ?_
    refine HT.out.mono ?_
    rintro e w' ⟨rfl, rfl⟩
    go_wp2
    go_step3
    go_wp2
    simp only [Exit.noGoto]
    go_ret2
    exact ⟨rfl, rfl⟩
end
end Go.Proofs.YtomcobcmjocapaaGreatDoor
