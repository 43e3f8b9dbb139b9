/- Walks: sets of nodes as bits (has, add, join). -/
import Derived.Test.YtjifpjfinffamaaLib4
import Derived.Test.YtjifpjfinffamaaM3
import Derived.WalkMore
namespace Go.Proofs.Ytjifpjfinffamaa
open Go.RowKit

theorem and_u64 (a b : Nat) (ha : a < 2 ^ 64) (hb : b < 2 ^ 64) : bits BinOp.and .u64 (a : Int) (b : Int) = ((a &&& b : Nat) : Int) := by
  have h : a &&& b < 2 ^ 64 := Nat.lt_of_le_of_lt Nat.and_le_left ha
  show IntKind.u64.wrap ((BitVec.ofInt 64 (a : Int) &&& BitVec.ofInt 64 (b : Int)).toNat : Int) = _
  rw [BitVec.ofInt_natCast, BitVec.ofInt_natCast, BitVec.toNat_and, BitVec.toNat_ofNat, BitVec.toNat_ofNat, Nat.mod_eq_of_lt ha, Nat.mod_eq_of_lt hb]
  exact IntWalk.u64_in _ (by omega)
theorem or_u64 (a b : Nat) (ha : a < 2 ^ 64) (hb : b < 2 ^ 64) : bits BinOp.or .u64 (a : Int) (b : Int) = ((a ||| b : Nat) : Int) := by
  have h : a ||| b < 2 ^ 64 := Nat.or_lt_two_pow ha hb
  show IntKind.u64.wrap ((BitVec.ofInt 64 (a : Int) ||| BitVec.ofInt 64 (b : Int)).toNat : Int) = _
  rw [BitVec.ofInt_natCast, BitVec.ofInt_natCast, BitVec.toNat_or, BitVec.toNat_ofNat, BitVec.toNat_ofNat, Nat.mod_eq_of_lt ha, Nat.mod_eq_of_lt hb]
  exact IntWalk.u64_in _ (by omega)
theorem one_bit (x r : Nat) (hx : x < 2 ^ 64) : (bits BinOp.and .u64 ((x : Int) / 2 ^ r) 1 == 1) = x.testBit r := by
  have h : ((x : Int) / 2 ^ r) = ((x / 2 ^ r : Nat) : Int) := by simp
  rw [h]
  have := and_u64 (x / 2 ^ r) 1 (Nat.lt_of_le_of_lt (Nat.div_le_self _ _) hx) (by decide)
  rw [show ((1 : Nat) : Int) = 1 from rfl] at this
  rw [this, Nat.and_one_is_mod]
  unfold Nat.testBit
  rw [Nat.shiftRight_eq_div_pow, Nat.one_and_eq_mod_two]
  have := Nat.mod_two_eq_zero_or_one (x / 2 ^ r)
  rcases this with h | h <;> simp [h]
set_option maxRecDepth 100000 in
set_option maxHeartbeats 1600000 in
theorem has_any (g M c i q r : Nat) (x : Nat) (w : World) (hi : q < M) (hN : i ≤ 65536) (hq : q = i / 64) (hr : r = i % 64) (hx : w.cell? ⟨g, q, none⟩ = some (.int .u64 x)) (hx2 : x < 2 ^ 64) :
    Calls Try.prog 77 #[.slice (some ⟨g, 0, none⟩) M c, .int .i64 i] w fun e w' => e = .returned (.bool (x.testBit r)) ∧ w' = w := by
  have e1 : (i : Int) / 64 = (q : Int) := by omega
  have e2 : (i : Int) % 64 = (r : Int) := by omega
  have i1 : (0 : Int) ≤ (q : Int) := by omega
  have i2 : (q : Int) < (M : Int) := by omega
  have i3 : r < 64 := by omega
  have h1 := one_bit x r hx2
  clear hq hr hx2
  go_enter Try.func77, Try.ntmps77
  go_wp2
  go_ret
  exact ⟨rfl, rfl⟩
set_option maxRecDepth 100000 in
set_option maxHeartbeats 1600000 in
theorem add_any (g M c i q r : Nat) (x : Nat) (w : World) (hi : q < M) (hN : i ≤ 65536) (hq : q = i / 64) (hr : r = i % 64) (hx : w.cell? ⟨g, q, none⟩ = some (.int .u64 x)) (hfz : w.frozen? ⟨g, q, none⟩ = false) (hx2 : x < 2 ^ 64) :
    Calls Try.prog 78 #[.slice (some ⟨g, 0, none⟩) M c, .int .i64 i] w fun e w' => e = .returned (.tuple #[]) ∧ w' = (w.setCell ⟨g, q, none⟩ (.int .u64 ((x ||| 2 ^ r : Nat) : Int))).drew := by
  have e1 : (i : Int) / 64 = (q : Int) := by omega
  have e2 : (i : Int) % 64 = (r : Int) := by omega
  have i1 : (0 : Int) ≤ (q : Int) := by omega
  have i2 : (q : Int) < (M : Int) := by omega
  have i3 : r < 64 := by omega
  have h1 : bits BinOp.or .u64 (x : Int) (IntKind.u64.wrap (2 ^ r)) = ((x ||| 2 ^ r : Nat) : Int) := by
    have h2 : (2 : Nat) ^ r < 2 ^ 64 := Nat.pow_lt_pow_right (by decide) i3
    have h3 : ((2 : Int) ^ r) = ((2 ^ r : Nat) : Int) := by simp
    rw [h3]
    generalize (2 : Nat) ^ r = p at h2
    rw [IntWalk.u64_in _ (by omega), or_u64 _ _ hx2 h2]
  clear hq hr hx2
  go_enter Try.func78, Try.ntmps78
  go_wp2
  go_region
  all_goals
    go_wp2
    go_end0
    exact ⟨rfl, rfl⟩

/-- is node i in the set whose words are ws? -/
def sbit (ws : List Nat) (i : Nat) : Bool := (ws.getD (i / 64) 0).testBit (i % 64)
def words (ws : List Nat) : List Value := ws.map fun x : Nat => Value.int .u64 (x : Int)
/-- a set of the call's own, in block g -/
structure SetAt (w : World) (g M : Nat) (ws : List Nat) : Prop where
  own : w.ownsRow 0 40 1 (.slice (some ⟨g, 0, none⟩) M M) M (words ws)
  small : ∀ x ∈ ws, x < 2 ^ 64
theorem SetAt.len {w : World} {g M : Nat} {ws : List Nat} (h : SetAt w g M ws) : ws.length = M := by
  have := h.own.1
  simpa [words] using this
theorem SetAt.cell {w : World} {g M : Nat} {ws : List Nat} (h : SetAt w g M ws) {q : Nat} (hq : q < M) : w.cell? ⟨g, q, none⟩ = some (.int .u64 ((ws.getD q 0 : Nat) : Int)) ∧ w.frozen? ⟨g, q, none⟩ = false ∧ ws.getD q 0 < 2 ^ 64 := by
  have hl := h.len
  have hq2 : q < ws.length := by omega
  have e : ws.getD q 0 = ws[q] := by simp [List.getD, hq2]
  rw [e]
  refine ⟨?_, h.own.frozenAt q, h.small _ (List.getElem_mem hq2)⟩
  rw [h.own.cellAt q (by omega)]
  simp [words, hq2]
theorem SetAt.lt {w : World} {g M : Nat} {ws : List Nat} (h : SetAt w g M ws) : g < w.heap.size := (h.own.lt g rfl).2
theorem SetAt.kept {w w' : World} {g M : Nat} {ws : List Nat} (h : SetAt w g M ws) (hk : w'.heap[g]? = w.heap[g]?) : SetAt w' g M ws := by
  refine ⟨⟨h.own.1, ?_⟩, h.small⟩
  rcases h.own.2 with h2 | ⟨g', cap, cur, hv, hbg, hh, h3⟩
  · exact .inl h2
  · refine .inr ⟨g', cap, cur, hv, hbg, ?_, h3⟩
    injection hv with hv
    injection hv with hv
    injection hv with hv
    rw [← hv, hk, hv]
    exact hh
theorem SetAt.set {w : World} {g M : Nat} {ws : List Nat} (h : SetAt w g M ws) (q x : Nat) (hx : x < 2 ^ 64) : SetAt (w.setCell ⟨g, q, none⟩ (.int .u64 (x : Int))) g M (ws.set q x) := by
  refine ⟨?_, fun y hy => ?_⟩
  · have := (h.own.stored q (.int .u64 (x : Int))).1
    rwa [show words (ws.set q x) = (words ws).set q (.int .u64 (x : Int)) from by simp [words, List.map_set]]
  · rcases List.mem_or_eq_of_mem_set hy with h1 | h1
    · exact h.small y h1
    · rw [h1]; exact hx
theorem sbit_add {ws : List Nat} {i M : Nat} (hl : ws.length = M) (hi : i / 64 < M) (j : Nat) : sbit (ws.set (i / 64) (ws.getD (i / 64) 0 ||| 2 ^ (i % 64))) j = (sbit ws j || decide (j = i)) := by
  unfold sbit
  by_cases h : j / 64 = i / 64
  · rw [h]
    have e : (ws.set (i / 64) (ws.getD (i / 64) 0 ||| 2 ^ (i % 64))).getD (i / 64) 0 = ws.getD (i / 64) 0 ||| 2 ^ (i % 64) := by
      simp [List.getD, List.getElem?_set_self (show i / 64 < ws.length by omega)]
    rw [e, Nat.testBit_or, Nat.testBit_two_pow]
    congr 1
    by_cases h2 : j = i
    · subst h2; simp
    · have : ¬ i % 64 = j % 64 := by omega
      simp [h2, this]
  · have e : (ws.set (i / 64) (ws.getD (i / 64) 0 ||| 2 ^ (i % 64))).getD (j / 64) 0 = ws.getD (j / 64) 0 := by
      simp [List.getD, List.getElem?_set_ne (show i / 64 ≠ j / 64 from fun e => h e.symm)]
    rw [e]
    have : ¬ j = i := fun e => h (by rw [e])
    simp [this]
def AddEnds (g M i : Nat) (ws : List Nat) (w : World) (e : Ending) (w' : World) : Prop :=
  ∃ ws', e = .returned (.tuple #[]) ∧ SetAt w' g M ws' ∧ (∀ j, sbit ws' j = (sbit ws j || decide (j = i))) ∧ w.grownBy w' (some g)
theorem add_set (g M i : Nat) (ws : List Nat) (w : World) (h : SetAt w g M ws) (hN : i ≤ 65536) (hi : i / 64 < M) :
    Calls Try.prog 78 #[.slice (some ⟨g, 0, none⟩) M M, .int .i64 i] w (AddEnds g M i ws w) := by
  obtain ⟨h1, h2, h3⟩ := h.cell hi
  refine (add_any g M M i (i / 64) (i % 64) _ w hi hN rfl rfl h1 h2 h3).mono ?_
  rintro e w' ⟨rfl, rfl⟩
  have h4 : ws.getD (i / 64) 0 ||| 2 ^ (i % 64) < 2 ^ 64 := Nat.or_lt_two_pow h3 (Nat.pow_lt_pow_right (by decide) (Nat.mod_lt _ (by decide)))
  have h5 := h.set (i / 64) _ h4
  exact ⟨_, rfl, ⟨h5.own, h5.small⟩, sbit_add h.len hi, grown_trans (h.own.stored (i / 64) _).2 (grown_drew _ _)⟩
theorem has_set (g M i : Nat) (ws : List Nat) (w : World) (h : SetAt w g M ws) (hN : i ≤ 65536) (hi : i / 64 < M) :
    Calls Try.prog 77 #[.slice (some ⟨g, 0, none⟩) M M, .int .i64 i] w fun e w' => e = .returned (.bool (sbit ws i)) ∧ w' = w := by
  obtain ⟨h1, h2, h3⟩ := h.cell hi
  exact has_any g M M i (i / 64) (i % 64) _ w hi hN rfl rfl h1 h3

/-- the first k words are joined -/
def joinK (ws us : List Nat) (k : Nat) : List Nat := (List.range ws.length).map fun i => if i < k then ws.getD i 0 ||| us.getD i 0 else ws.getD i 0
theorem joinK_get {ws us : List Nat} {k i : Nat} (hi : i < ws.length) : (joinK ws us k).getD i 0 = if i < k then ws.getD i 0 ||| us.getD i 0 else ws.getD i 0 := by
  simp [joinK, List.getD, hi]
theorem joinK_zero (ws us : List Nat) : joinK ws us 0 = ws := by
  apply List.ext_getElem?
  intro i
  by_cases h : i < ws.length
  · simp [joinK, h]
  · simp [joinK, h]
theorem joinK_next {ws us : List Nat} {k : Nat} (hk : k < ws.length) : joinK ws us (k + 1) = (joinK ws us k).set k (ws.getD k 0 ||| us.getD k 0) := by
  apply List.ext_getElem?
  intro i
  by_cases h : i < ws.length
  · by_cases e : i = k
    · subst e
      rw [List.getElem?_set_self (by simpa [joinK] using hk)]
      simp [joinK, hk]
    · rw [List.getElem?_set_ne (fun e' => e e'.symm)]
      have : (i < k + 1) = (i < k) := by apply propext; omega
      simp [joinK, h, this]
  · rw [List.getElem?_eq_none (by simp [joinK]; omega), List.getElem?_eq_none (by simp [joinK]; omega)]
theorem joinK_bit {ws us : List Nat} {M : Nat} (h1 : ws.length = M) {i : Nat} (hi : i / 64 < M) : sbit (joinK ws us M) i = (sbit ws i || sbit us i) := by
  unfold sbit
  rw [joinK_get (by omega), if_pos hi, Nat.testBit_or]
def JoinEnds (g M : Nat) (ws us : List Nat) (w : World) (e : Ending) (w' : World) : Prop :=
  ∃ ws', e = .returned (.tuple #[]) ∧ SetAt w' g M ws' ∧ (∀ j, j / 64 < M → sbit ws' j = (sbit ws j || sbit us j)) ∧ w.grownBy w' (some g)
set_option maxRecDepth 100000 in
set_option maxHeartbeats 1600000 in
theorem join_set (g h M : Nat) (ws us : List Nat) (w : World) (hs : SetAt w g M ws) (ht : SetAt w h M us) (hgh : g ≠ h) (hM : M ≤ 65536) :
    Calls Try.prog 76 #[.slice (some ⟨g, 0, none⟩) M M, .slice (some ⟨h, 0, none⟩) M M] w (JoinEnds g M ws us w) := by
  have hwl := hs.len
  have HWL := Lib.hid hwl
  have HS := Lib.hid hs
  have HT := Lib.hid ht
  clear hs ht hwl
  go_enter Try.func76, Try.ntmps76
  go_wp2
  go_loopw [7] (fun i wr => ∃ k : Nat, k ≤ M ∧ i = .int .i64 k ∧ Hid (SetAt wr g M (joinK ws us k)) ∧ Hid (w.grownBy wr (some g))) (fun i _ => M - (intOf i).toNat)
  case atStart => exact ⟨0, Nat.zero_le _, rfl, Lib.hid (by rw [joinK_zero]; exact HS.out), Lib.hid ⟨rfl, rfl, rfl, Nat.le_refl _, fun _ _ _ => rfl⟩⟩
  case round =>
    obtain ⟨k, hk, rfl, HK, HG⟩ := hrel
    by_cases hlt : k < M
    · obtain ⟨c1, c2, c3⟩ := HK.out.cell hlt
      have ht2 : SetAt wr h M us := HT.out.kept (HG.out.block h HT.out.lt (fun e => hgh (by injection e with e; exact e.symm)))
      obtain ⟨d1, _, d3⟩ := ht2.cell hlt
      have e1 : (joinK ws us k).getD k 0 = ws.getD k 0 := by rw [joinK_get (by rw [HWL.out]; exact hlt), if_neg (by omega)]
      rw [e1] at c1 c3
      obtain ⟨x, hx⟩ : ∃ x, ws.getD k 0 = x := ⟨_, rfl⟩
      obtain ⟨y, hy⟩ : ∃ y, us.getD k 0 = y := ⟨_, rfl⟩
      rw [hx] at c1 c3
      rw [hy] at d1 d3
      have hor := or_u64 x y c3 d3
      have hn := joinK_next (us := us) (show k < ws.length by rw [HWL.out]; exact hlt)
      rw [hx, hy] at hn
      have hset := HK.out.set k (x ||| y) (Nat.or_lt_two_pow c3 d3)
      rw [← hn] at hset
      have hgr := grown_trans HG.out ((HK.out.own.stored k (.int .u64 ((x ||| y : Nat) : Int))).2)
      have i1 : (0 : Int) ≤ (k : Int) := by omega
      have i2 : (k : Int) < (M : Int) := by omega
      have HSET := Lib.hid hset
      have HGR := Lib.hid hgr
      clear hn hset hgr hx hy e1 ht2 c3 d3
      go_wp2
      go_region
      all_goals
        go_wp2
        go_roundw
        case rel => exact ⟨k + 1, hlt, by go_num, Lib.hid ⟨HSET.out.own, HSET.out.small⟩, Lib.hid (grown_trans HGR.out (grown_drew _ _))⟩
        case measure => simp [intOf]; omega
    · have hkM : k = M := by omega
      subst hkM
      go_wp2
      go_end0
      exact ⟨_, rfl, HK.out, fun j hj => joinK_bit HWL.out hj, HG.out⟩
end Go.Proofs.Ytjifpjfinffamaa
