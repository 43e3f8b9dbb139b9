/- What graph.Needed holds in memory between two rounds. -/
import Derived.Test.YtjifpjfinffamaaB1
import Derived.Test.YtjifpjfinffamaaS1
import Derived.Test.YtjifpjfinffamaaWA
import Derived.Test.YtjifpjfinffamaaM5
import Derived.Test.YtjifpjfinffamaaL5
import Derived.Maps.Views
import Derived.Maps.OwnSet
namespace Go.Proofs.Ytjifpjfinffamaa
open Go.RowKit Go.Shelf Go.Maps

/-- how the map's elements read: a set by its block -/
def Rb (M : Nat) : Value → Option (DataW Unit × List MemPlace)
  | .slice (some ⟨b, 0, none⟩) n c => if n = M ∧ c = M then some (.lit (.int .i64 (b : Int)), []) else none
  | .slice none 0 0 => some (.nil, [])
  | _ => none
theorem Rb_mk (M b : Nat) : Rb M (.slice (some ⟨b, 0, none⟩) M M) = some (.lit (.int .i64 (b : Int)), []) := by simp [Rb]
theorem Rb_zero (M : Nat) : Rb M (.slice none 0 0) = some (.nil, []) := rfl
theorem Rb_inv {M g : Nat} {v : Value} {ps : List MemPlace} (h : Rb M v = some (.lit (.int .i64 (g : Int)), ps)) : v = .slice (some ⟨g, 0, none⟩) M M := by
  unfold Rb at h
  split at h
  · split at h
    · rename_i b n c hnc
      simp at h
      obtain ⟨h1, _⟩ := h
      obtain rfl : b = g := by omega
      rw [hnc.1, hnc.2]
    · cases h
  · simp at h
  · cases h

theorem int_key (y : Nat) (hy : y < 65536) : keyOf Try.prog 3 (.int .i64 (y : Int)) = some (.int .i64 (y : Int)) := Maps.keyOf_int_mk Try.underlying3 (WalkArith.wf_i64 (by omega))
theorem zero117 (w : World) : (zeroValue 117).run Try.prog w = .ok (.slice none 0 0) w := by kernel_rfl
theorem lit_ne {x y : Nat} (h : x ≠ y) : (Lit.int .i64 (x : Int)) ≠ Lit.int .i64 (y : Int) := by
  intro e
  injection e with _ e
  omega

structure MapI (M N n₁ mb m : Nat) (rc : Nat → Option (Nat → Bool)) (W : World) : Prop where
  map : ∃ D, W.ownsMap Try.prog 3 (Rb M) mb m D ∧ IsMap D ∧ ∀ y, y < N → (rc y = none → has D (.int .i64 (y : Int)) = false) ∧
    ∀ f, rc y = some f → has D (.int .i64 (y : Int)) = true ∧ ∃ (g : Nat) (ws : List Nat), (∀ zd, D.atKey (.int .i64 (y : Int)) zd = .lit (.int .i64 (g : Int))) ∧ n₁ ≤ g ∧ SetAt W g M ws ∧ ∀ j, j < N → sbit ws j = f j
theorem SetAt.block {w : World} {g M : Nat} {ws : List Nat} (h : SetAt w g M ws) : ∃ cs, w.heap[g]? = some (.cells cs 40 (0, 0)) := by
  rcases h.own.2 with ⟨h2, _⟩ | ⟨g', cap, cur, hv, hbg, hh, h3⟩
  · cases h2
  · injection hv with hv
    injection hv with hv
    injection hv with hv
    exact ⟨cur, by rw [hv]; exact hh⟩
theorem MapI.kept {M N n₁ mb m : Nat} {rc : Nat → Option (Nat → Bool)} {W W' : World} (h : MapI M N n₁ mb m rc W) (hm : W'.heap[mb]? = W.heap[mb]?)
    (hk : ∀ g cs, n₁ ≤ g → W.heap[g]? = some (.cells cs 40 (0, 0)) → W'.heap[g]? = W.heap[g]?) : MapI M N n₁ mb m rc W' := by
  obtain ⟨D, ⟨es, ck, h1, h2⟩, h3, h4⟩ := h.map
  refine ⟨D, ⟨es, ck, hm.trans h1, h2⟩, h3, fun y hy => ⟨(h4 y hy).1, fun f hf => ?_⟩⟩
  obtain ⟨a, g, ws, b, c, d, e⟩ := (h4 y hy).2 f hf
  obtain ⟨cs, hc⟩ := d.block
  exact ⟨a, g, ws, b, c, d.kept (hk g cs c hc), e⟩
theorem MapI.mono {M N n₁ mb m m' : Nat} {rc : Nat → Option (Nat → Bool)} {W : World} (h : MapI M N n₁ mb m rc W) (hm : m ≤ m') : MapI M N n₁ mb m' rc W := by
  obtain ⟨D, h1, h2⟩ := h.map
  exact ⟨D, h1.mono hm, h2⟩
theorem MapI.look {M N n₁ mb m : Nat} {rc : Nat → Option (Nat → Bool)} {W : World} (h : MapI M N n₁ mb m rc W) (hN : N ≤ 65536) {y : Nat} (hy : y < N) :
    (rc y = none ∧ ∃ v, (Instr.lookup 113 (.map (some mb)) (.int .i64 (y : Int)) true).run Try.prog W = .ok (.tuple #[v, .bool false]) W) ∨
    ∃ (f : Nat → Bool) (g : Nat) (ws : List Nat), rc y = some f ∧ (Instr.lookup 113 (.map (some mb)) (.int .i64 (y : Int)) true).run Try.prog W = .ok (.tuple #[.slice (some ⟨g, 0, none⟩) M M, .bool true]) W ∧ n₁ ≤ g ∧ SetAt W g M ws ∧ ∀ j, j < N → sbit ws j = f j := by
  obtain ⟨D, h1, _, h4⟩ := h.map
  obtain ⟨v, ps, hr, hv⟩ := h1.look_ok (Maps.int_keyed Try.underlying3) Try.underlying113 (zero117 W) (Rb_zero M) (int_key y (by omega))
  obtain ⟨h5, h6⟩ := h4 y hy
  cases hrc : rc y with
  | none => exact .inl ⟨rfl, v, by rw [hr, h5 hrc]⟩
  | some f =>
    obtain ⟨a, g, ws, b, c, d, e⟩ := h6 f hrc
    rw [b] at hv
    obtain rfl := Rb_inv hv
    exact .inr ⟨f, g, ws, rfl, by rw [hr, a], c, d, e⟩
theorem MapI.put {M N n₁ mb m x gN : Nat} {rc : Nat → Option (Nat → Bool)} {W : World} {ws : List Nat} {f : Nat → Bool} (h : MapI M N n₁ mb m rc W) (hN : N ≤ 65536) (hx : x < N) (hm : m < maxLen) (hmb : mb < n₁) (hg : n₁ ≤ gN)
    (hs : SetAt W gN M ws) (hf : ∀ j, j < N → sbit ws j = f j) :
    ∃ W', (Instr.mapUpdate 113 (.map (some mb)) (.int .i64 (x : Int)) (.slice (some ⟨gN, 0, none⟩) M M)).run Try.prog W = .ok () W' ∧ MapI M N n₁ mb (m + 1) (fun y => if y = x then some f else rc y) W' ∧ W.grownBy W' (some mb) := by
  obtain ⟨D, h1, h3, h4⟩ := h.map
  obtain ⟨W', hr, ho, hgr⟩ := h1.update (Maps.int_keyed Try.underlying3) Try.underlying113 hm (int_key x (by omega)) (Rb_mk M gN)
  refine ⟨W', hr, ⟨D.put (.int .i64 (x : Int)) (.lit (.int .i64 (gN : Int))), ho, h3.put _ _, fun y hy => ?_⟩, hgr⟩
  have hkeep : ∀ g ws, n₁ ≤ g → SetAt W g M ws → SetAt W' g M ws := fun g ws hg hs => hs.kept (hgr.block g hs.lt (fun e => by injection e with e; omega))
  by_cases e : y = x
  · subst e
    rw [if_pos rfl]
    refine ⟨fun h => (by cases h), fun f' hf' => ?_⟩
    injection hf' with hf'
    subst hf'
    have hik : WideAt.IsKeyLit (Lit.int .i64 (y : Int)) := trivial
    exact ⟨has_put_same h3 hik _, gN, ws, fun zd => atKey_put_same h3 hik _ zd, hg, hkeep _ _ hg hs, hf⟩
  · rw [if_neg e]
    refine ⟨fun h => by rw [has_put_other (lit_ne e)]; exact (h4 y hy).1 h, fun f' hf' => ?_⟩
    obtain ⟨a, g, ws', b, c, d, e'⟩ := (h4 y hy).2 f' hf'
    exact ⟨by rw [has_put_other (lit_ne e)]; exact a, g, ws', fun zd => by rw [atKey_put_other (lit_ne e)]; exact b zd, c, hkeep _ _ c d, e'⟩

/-- the variable 'need' in block p holds a list of the call's own -/
def NS (w : World) (p : Nat) (v : Value) (xs : List Int) : Prop := w.heap[p]? = some (.cells #[v] 31 (0, 0)) ∧ w.ownsRow (p + 2) 3 1 v xs.length (ints xs)
theorem NS.cell {w : World} {p : Nat} {v : Value} {xs : List Int} (h : NS w p v xs) : w.cell? ⟨p, 0, none⟩ = some v := by rw [cell_of_row w p 0 _ 31 (0, 0) h.1]; rfl
theorem NS.kept {w w' : World} {p : Nat} {v : Value} {xs : List Int} (h : NS w p v xs) (hp : w'.heap[p]? = w.heap[p]?) (hk : ∀ g cs, v.ownBlock = some g → w.heap[g]? = some (.cells cs 3 (0, 0)) → w'.heap[g]? = w.heap[g]?) : NS w' p v xs := by
  refine ⟨hp.trans h.1, h.2.1, ?_⟩
  rcases h.2.2 with h2 | ⟨g, cap, cur, hv, hbg, hh, h3⟩
  · exact .inl h2
  · exact .inr ⟨g, cap, cur, hv, hbg, (hk g cur (by rw [hv]; rfl) hh).trans hh, h3⟩
theorem NS.pushed {w w2 : World} {p L c g cap2 : Nat} {A : Option Addr} {xs : List Int} {x : Int} (h : NS w p (.slice A L c) xs) (hl : xs.length = L)
    (hg : w.grownBy w2 (Value.slice A L c).ownBlock) (hown2 : w2.ownsRow (p + 2) 3 1 (.slice (some ⟨g, 0, none⟩) (L + 1) cap2) (L + 1) (ints xs ++ [Value.int .i64 x]))
    (hrow : (Value.slice A L c).ownBlock = some g ∨ w.heap.size ≤ g) :
    NS (w2.setCell ⟨p, 0, none⟩ (.slice (some ⟨g, 0, none⟩) (L + 1) cap2)) p (.slice (some ⟨g, 0, none⟩) (L + 1) cap2) (xs ++ [x]) ∧ Moves w (w2.setCell ⟨p, 0, none⟩ (.slice (some ⟨g, 0, none⟩) (L + 1) cap2)) p (.slice A L c) (.slice (some ⟨g, 0, none⟩) (L + 1) cap2) := by
  have hp := (Array.getElem?_eq_some_iff.1 h.1).1
  have hne0 : some p ≠ (Value.slice A L c).ownBlock := fun hc => by have := (h.2.lt p hc.symm).1; omega
  have hpg : p < g := by have := (hown2.lt g rfl).1; omega
  have h2 := (hg.block p hp hne0).trans h.1
  refine ⟨⟨?_, ?_⟩, ⟨hg.os, hg.tape, hg.output, by simpa using hg.size, fun k hk hkp hkv => ?_, ?_⟩⟩
  · exact heap_setCell_same w2 p 0 _ 31 _ h2
  · have e : ints (xs ++ [x]) = ints xs ++ [Value.int .i64 x] := by simp [ints]
    rw [e, show (xs ++ [x]).length = L + 1 from by simp [hl]]
    refine ⟨hown2.1, ?_⟩
    rcases hown2.2 with ⟨hc, _⟩ | ⟨g', cap, cur, hv, hb, hh, hr⟩
    · cases hc
    · refine .inr ⟨g', cap, cur, hv, hb, ?_, hr⟩
      rw [heap_setCell_other w2 ⟨p, 0, none⟩ g' _ (by simp; omega)]
      exact hh
  · exact (heap_setCell_other w2 ⟨p, 0, none⟩ k _ (by simpa using hkp)).trans (hg.block k hk (fun hc => hkv hc.symm))
  · rcases hrow with h3 | h3
    · exact .inl h3.symm
    · right
      intro k hk
      obtain rfl : g = k := by simpa [Value.ownBlock] using hk
      exact h3
/-- a new block is written -/
theorem Moves.fresh {w0 w w' : World} {p g : Nat} {v v' : Value} (h : Moves w0 w p v v') (hg : w.grownBy w' (some g)) (hge : w0.heap.size ≤ g) : Moves w0 w' p v v' :=
  ⟨hg.os.trans h.os, hg.tape.trans h.tape, hg.output.trans h.output, Nat.le_trans h.size hg.size, fun k hk hp hv => (hg.block k (Nat.lt_of_lt_of_le hk h.size) (fun e => by injection e with e; omega)).trans (h.block k hk hp hv), h.row⟩
theorem Moves.none_ {w0 w w' : World} {p : Nat} {v v' : Value} (h : Moves w0 w p v v') (hg : w.grownBy w' none) : Moves w0 w' p v v' :=
  ⟨hg.os.trans h.os, hg.tape.trans h.tape, hg.output.trans h.output, Nat.le_trans h.size hg.size, fun k hk hp hv => (hg.block k (Nat.lt_of_lt_of_le hk h.size) (fun e => by cases e)).trans (h.block k hk hp hv), h.row⟩

theorem SetAt.made (w : World) (M : Nat) (hM : M ≤ maxLen) : SetAt (w.alloc (.cells (madeCells #[Value.int .u64 0] M) 40)) w.heap.size M (List.replicate M 0) := by
  have h := World.ownsRow_lit (base := 0) (e := 40) (size := 1) w (madeCells #[Value.int .u64 0] M) M (Nat.zero_le _) hM (by rw [size_madeCells, Nat.mul_one])
  rw [toList_madeCells_one] at h
  refine ⟨?_, fun x hx => ?_⟩
  · rw [show words (List.replicate M 0) = List.replicate M (Value.int .u64 0) from by simp [words]]
    exact h
  · have := List.eq_of_mem_replicate hx
    omega
theorem sbit_zero (M j : Nat) : sbit (List.replicate M 0) j = false := by
  unfold sbit
  by_cases h : j / 64 < M
  · simp [List.getD, h]
  · simp [List.getD, h]
theorem NS.far {w : World} {p k : Nat} {v : Value} {xs : List Int} (h : NS w p v xs) (hk : k < p + 2) : v.ownBlock ≠ some k := fun e => by have := (h.2.lt k e).1; omega
theorem NS.not_set {w : World} {p g M : Nat} {v : Value} {xs : List Int} {ws : List Nat} (h : NS w p v xs) (hs : SetAt w g M ws) : v.ownBlock ≠ some g := by
  obtain ⟨cs, hc⟩ := hs.block
  exact own_ne_blk h.2 hc (by decide)
theorem Moves.low {W wr : World} {p : Nat} {v v' : Value} {xs : List Int} (hm : Moves W wr p v v') (hn : NS W p v xs) {n₁ : Nat} (h1 : n₁ ≤ p + 2) (h2 : n₁ ≤ W.heap.size) : ∀ k, k < n₁ → k ≠ p → wr.heap[k]? = W.heap[k]? :=
  fun k hk hp => hm.block k (by omega) hp (hn.far (by omega))
theorem NS.fresh {w w' : World} {p g : Nat} {v : Value} {xs : List Int} (h : NS w p v xs) (hg : w.grownBy w' (some g)) (hp : p ≠ g) (hv : v.ownBlock ≠ some g) : NS w' p v xs :=
  h.kept (hg.block p (Array.getElem?_eq_some_iff.1 h.1).1 (fun e => by injection e with e; exact hp e)) fun k cs hk hc => hg.block k (Array.getElem?_eq_some_iff.1 hc).1 (fun e => by injection e with e; subst e; exact hv hk)
theorem NS.alloc {w : World} {p : Nat} {v : Value} {xs : List Int} (h : NS w p v xs) (o : Obj) : NS (w.alloc o) p v xs :=
  h.kept (Go.heap_alloc_old w o p (Array.getElem?_eq_some_iff.1 h.1).1) fun g _ _ hc => Go.heap_alloc_old w o g (Array.getElem?_eq_some_iff.1 hc).1
theorem SetAt.alloc {w : World} {g M : Nat} {ws : List Nat} (h : SetAt w g M ws) (o : Obj) : SetAt (w.alloc o) g M ws := h.kept (Go.heap_alloc_old w o g h.lt)
theorem NS.drew {w : World} {p : Nat} {v : Value} {xs : List Int} (h : NS w p v xs) : NS w.drew p v xs := ⟨h.1, h.2⟩
theorem MapI.moves {M N n₁ mb m p : Nat} {rc : Nat → Option (Nat → Bool)} {W wr : World} {v v' : Value} {xs : List Int} (h : MapI M N n₁ mb m rc W) (hm : Moves W wr p v v') (hn : NS W p v xs) (h1 : n₁ ≤ p + 2) (h2 : n₁ ≤ W.heap.size) (h3 : mb < n₁) (h4 : mb ≠ p) (h5 : p < n₁) : MapI M N n₁ mb m rc wr :=
  h.kept (hm.low hn h1 h2 mb h3 h4) fun g cs hg hc => hm.block g (Array.getElem?_eq_some_iff.1 hc).1 (by omega) (own_ne_blk hn.2 hc (by decide))
theorem MapI.look_moved {M N n₁ mb m p : Nat} {rc : Nat → Option (Nat → Bool)} {W wr : World} {v v' : Value} {xs : List Int} (h : MapI M N n₁ mb m rc W) (hm : Moves W wr p v v') (hn : NS W p v xs) (h1 : n₁ ≤ p + 2) (h2 : n₁ ≤ W.heap.size) (h3 : mb < n₁) (h4 : mb ≠ p) (h5 : p < n₁)
    (hN : N ≤ 65536) {y : Nat} (hy : y < N) :
    (rc y = none ∧ ∃ v, (Instr.lookup 113 (.map (some mb)) (.int .i64 (y : Int)) true).run Try.prog wr = .ok (.tuple #[v, .bool false]) wr) ∨
    ∃ (f : Nat → Bool) (g : Nat) (ws : List Nat), rc y = some f ∧ (Instr.lookup 113 (.map (some mb)) (.int .i64 (y : Int)) true).run Try.prog wr = .ok (.tuple #[.slice (some ⟨g, 0, none⟩) M M, .bool true]) wr ∧ n₁ ≤ g ∧ g < W.heap.size ∧ SetAt wr g M ws ∧ ∀ j, j < N → sbit ws j = f j := by
  obtain ⟨D, ⟨es, ck, g1, g2⟩, _, q4⟩ := h.map
  have how : wr.ownsMap Try.prog 3 (Rb M) mb m D := ⟨es, ck, (hm.low hn h1 h2 mb h3 h4).trans g1, g2⟩
  obtain ⟨u, ps, hr, hv⟩ := how.look_ok (Maps.int_keyed Try.underlying3) Try.underlying113 (zero117 wr) (Rb_zero M) (int_key y (by omega))
  obtain ⟨h7, h6⟩ := q4 y hy
  cases hrc : rc y with
  | none => exact .inl ⟨rfl, u, by rw [hr, h7 hrc]⟩
  | some f =>
    obtain ⟨a, g, ws, b, c, d, e⟩ := h6 f hrc
    rw [b] at hv
    obtain rfl := Rb_inv hv
    have hgW := d.lt
    exact .inr ⟨f, g, ws, rfl, by rw [hr, a], c, hgW, d.kept (hm.block g hgW (by omega) (hn.not_set d)), e⟩
theorem two_made (W : World) (M p : Nat) (v : Value) (hM : M ≤ maxLen) : SetAt ((W.alloc (.cells (madeCells #[Value.int .u64 0] M) 40)).alloc (.cells (madeCells #[Value.int .u64 0] M) 40)).drew W.heap.size M (List.replicate M 0) ∧
    SetAt ((W.alloc (.cells (madeCells #[Value.int .u64 0] M) 40)).alloc (.cells (madeCells #[Value.int .u64 0] M) 40)).drew (W.heap.size + 1) M (List.replicate M 0) ∧
    Moves W ((W.alloc (.cells (madeCells #[Value.int .u64 0] M) 40)).alloc (.cells (madeCells #[Value.int .u64 0] M) 40)).drew p v v ∧ ∀ k, k < W.heap.size → ((W.alloc (.cells (madeCells #[Value.int .u64 0] M) 40)).alloc (.cells (madeCells #[Value.int .u64 0] M) 40)).drew.heap[k]? = W.heap[k]? := by
  have h1 := SetAt.made W M hM
  have h2 := SetAt.made (W.alloc (.cells (madeCells #[Value.int .u64 0] M) 40)) M hM
  rw [World.size_alloc] at h2
  have h3 : SetAt ((W.alloc (.cells (madeCells #[Value.int .u64 0] M) 40)).alloc (.cells (madeCells #[Value.int .u64 0] M) 40)) W.heap.size M (List.replicate M 0) := h1.kept (Go.heap_alloc_old _ _ _ (by simp))
  exact ⟨⟨h3.own, h3.small⟩, ⟨h2.own, h2.small⟩, ((((Moves.refl W p v).none_ (World.grownBy_alloc _ _ none)).none_ (World.grownBy_alloc _ _ none)).none_ (grown_drew _ none)), fun k hk => (Go.heap_alloc_old (W.alloc (.cells (madeCells #[Value.int .u64 0] M) 40)) _ k (by simp; omega)).trans (Go.heap_alloc_old W _ k hk)⟩
/-- between two rounds: the loop began in w3; block b10 holds the variable, mb the map; n₁ is where the loop's own blocks begin -/
structure MemI (N n₁ b10 mb : Nat) (w3 : World) (s : St) (m : Nat) (W : World) : Prop where
  kq : Kq n₁ b10 mb w3 W
  os : W.os = w3.os
  tape : W.tape = w3.tape
  output : W.output = w3.output
  size : n₁ ≤ W.heap.size
  map : MapI (N / 64 + 1) N n₁ mb m s.rc W
  need : ∃ v, NS W b10 v s.nd
  len : s.nd.length ≤ m * 65536

theorem wlIn_append_two {P : Program} (w : World) {ops : Array Oper} {rest : List Oper} {o : Oper} {a : Act} {Q : Exit → Act → World → Prop} (lr nr : Nat) (hgd : o.guard = none) (s x : Operand) (t : TypeId)
    (ho : o.op = .call { callee := .builtin .append, args := #[s, x], argTypes := #[t, t] })
    (base E : Nat) (z : Value) (size bytes : Nat) (hinfo : (P.info? E).map (fun i => (i.zero, i.size, i.bytes)) = some (some z, size, bytes)) (ht : P.underlying t = some (.slice E))
    (hzs : z.cells.size = size) (hsz : 0 < size)
    (v : Value) (n : Nat) (xs : List Value) (hs : a.eval s = v) (hown : w.ownsRow base E size v n xs)
    (b c1 : Nat) (news : List Value) (hx : a.eval x = .slice (some ⟨b, 0, none⟩) 1 c1) (hb : w.heap[b]? = some (.cells news.toArray E (0, 0))) (hl : news.length = size) (h1 : ∀ u ∈ news, u.oneCell' = true)
    (hbytes : (n + 1) * bytes ≤ 140737488355328) (h63 : n + 1 ≤ 140737488355328) (hbase : base ≤ w.heap.size)
    (h : ∀ g cap w', w'.ownsRow base E size (.slice (some ⟨g, 0, none⟩) (n + 1) cap) (n + 1) (xs ++ news) → g < w'.heap.size → ((v.ownBlock = some g ∧ w.grownBy w' (some g)) ∨ (g = w.heap.size ∧ w.grownBy w' none)) → wpListIn (Fence.wide.inRound lr) nr P ops Q rest (a.put o.dst (.slice (some ⟨g, 0, none⟩) (n + 1) cap)) w') :
    wpListIn (Fence.wide.inRound lr) nr P ops Q (o :: rest) a w :=
  wpListIn_plain hgd fun _ hK => op_in_round lr nr (by rw [ho]; intro c hc; cases hc) (wp_append_two w s x t ho base E z size bytes hinfo ht hzs hsz v n xs hs hown b c1 news hx hb hl h1 hbytes h63 hbase fun g cap w' h2 h3 h4 => hK _ _ (h g cap w' h2 h3 h4))
theorem nx_len {N : Nat} {l : List E} {x : Nat} (ok : Ok N l) : ∀ i ∈ outRow l x l.length, tg l i < N := by
  intro i hi
  obtain ⟨j, rfl, hjl, _⟩ := mem_outRow hi
  have hm := ok _ (eg_mem hjl)
  simp only [tg, Int.toNat_natCast]
  have := hm.2.1
  have := hm.2.2
  omega
theorem MemI.succ {N n₁ b10 mb m : Nat} {w3 W : World} {s : St} (h : MemI N n₁ b10 mb w3 s m W) : MemI N n₁ b10 mb w3 s (m + 1) W :=
  ⟨h.kq, h.os, h.tape, h.output, h.size, h.map.mono (Nat.le_succ m), h.need, Nat.le_trans h.len (Nat.mul_le_mul_right _ (Nat.le_succ m))⟩
/-- the round is over: what the loop asks of it -/
theorem MemI.next {N n₁ b10 mb m xv gN : Nat} {w3 W w8 : World} {s : St} {l : List E} {v0 v : Value} {ws : List Nat} (hI : MemI N n₁ b10 mb w3 s m W) (hns : NS W b10 v0 s.nd) (hM : Moves W w8 b10 v0 v)
    (hns8 : NS w8 b10 v (s.nd ++ ndR l (beyB l s.rc (outRow l xv l.length)) (outRow l xv l.length) (outRow l xv l.length).length))
    (hs : SetAt w8 gN (N / 64 + 1) ws) (hf : ∀ j, j < N → sbit ws j = (nxB l (outRow l xv l.length) j || beyB l s.rc (outRow l xv l.length) j))
    (ok : Ok N l) (hN : N ≤ 65536) (hx : xv < N) (hrow : (outRow l xv l.length).length ≠ 0) (h1 : n₁ ≤ b10 + 2) (h4 : mb ≠ b10) (h3 : mb < n₁) (h5 : b10 < n₁) (hm : m < 65536) (hg : W.heap.size ≤ gN) :
    ∃ W', (Instr.mapUpdate 113 (.map (some mb)) (.int .i64 (xv : Int)) (.slice (some ⟨gN, 0, none⟩) (N / 64 + 1) (N / 64 + 1))).run Try.prog w8 = .ok () W' ∧ KeepsFrom n₁ W W' ∧ Kq n₁ b10 mb W W' ∧ MemI N n₁ b10 mb w3 (stp l s xv) (m + 1) W' := by
  have hsz := hI.size
  have hmap8 := hI.map.moves hM hns h1 hsz h3 h4 h5
  have hlow := hM.low hns h1 hsz
  obtain ⟨W', hr, hmp, hgr⟩ := hmap8.put hN hx (Nat.lt_of_lt_of_le hm (by unfold maxLen; omega)) h3 (by omega) hs hf
  have hkq : Kq n₁ b10 mb W W' := fun k hk h h' => (hgr.block k (by have := hM.size; omega) (fun e => by injection e with e; exact h' e)).trans (hlow k hk h)
  have hst : stp l s xv = { rc := fun y => if y = xv then some fun j => nxB l (outRow l xv l.length) j || beyB l s.rc (outRow l xv l.length) j else s.rc y, nd := s.nd ++ ndR l (beyB l s.rc (outRow l xv l.length)) (outRow l xv l.length) (outRow l xv l.length).length } := by
    unfold stp
    rw [if_neg hrow]
  refine ⟨W', hr, ⟨Nat.le_trans hM.size hgr.size, fun k o hk ho hoc => ?_⟩, hkq, ?_⟩
  · have hkW := (Array.getElem?_eq_some_iff.1 ho).1
    have hne : v0.ownBlock ≠ some k := by
      intro e
      rcases hns.2.2 with ⟨h, _⟩ | ⟨g, cap, cur, hv, _, hh, _⟩
      · rw [h] at e; cases e
      · rw [hv] at e
        injection e with e
        rw [← e] at ho
        have : o = Obj.cells cur 3 (0, 0) := (Option.some.inj (hh.symm.trans ho)).symm
        rw [this] at hoc
        simp [Obj.isCells] at hoc
    exact ((hgr.block k (Nat.lt_of_lt_of_le hkW hM.size) (fun e => by injection e with e; omega)).trans (hM.block k hkW (by omega) hne)).trans ho
  · rw [hst]
    refine ⟨fun k hk h h' => (hkq k hk h h').trans (hI.kq k hk h h'), (hgr.os.trans hM.os).trans hI.os, (hgr.tape.trans hM.tape).trans hI.tape, (hgr.output.trans hM.output).trans hI.output, Nat.le_trans hsz (Nat.le_trans hM.size hgr.size), hmp, ⟨v, ?_⟩, ?_⟩
    · refine hns8.kept (hgr.block b10 (by have := (Array.getElem?_eq_some_iff.1 hns8.1).1; exact this) (fun e => by injection e with e; exact h4 e.symm)) fun g cs hvg hgc => hgr.block g (Array.getElem?_eq_some_iff.1 hgc).1 (fun e => ?_)
      injection e with e
      subst e
      exact hns8.far (by omega) hvg
    · have h6 := ndR_len (N := N) (l := l) (b := beyB l s.rc (outRow l xv l.length)) (row := outRow l xv l.length) (nx_len ok) (outRow l xv l.length).length
      have h7 := hI.len
      simp only [List.length_append]
      omega
end Go.Proofs.Ytjifpjfinffamaa
