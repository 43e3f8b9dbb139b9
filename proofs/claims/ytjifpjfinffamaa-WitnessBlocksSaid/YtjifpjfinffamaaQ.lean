/- A queue: a slice that is cut at its head and grown at its end; it alone owns its block. -/
import Derived.Test.YtjifpjfinffamaaLib3
namespace Go.Proofs.Ytjifpjfinffamaa
open Go.RowKit

structure OwnQ (w : World) (base : Nat) (A : Option Addr) (n c : Nat) (q : List Int) : Prop where
  len : n = q.length
  le : n ≤ c
  at_ : ∃ g o cur, A = some ⟨g, o, none⟩ ∧ base ≤ g ∧ w.heap[g]? = some (.cells cur 3 (0, 0)) ∧ o + c ≤ cur.size ∧ ∀ i (h : i < q.length), w.cell? ⟨g, o + i, none⟩ = some (.int .i64 q[i])

theorem cellq {w : World} {g : Nat} {cur : Array Value} {t : Nat} {fr : Nat × Nat} (h : w.heap[g]? = some (.cells cur t fr)) (j : Nat) : w.cell? ⟨g, j, none⟩ = cur[j]? := cell_of_row w g j cur t fr h

theorem OwnQ.one {w : World} {base : Nat} {x : Int} (h : base ≤ w.heap.size) : OwnQ (w.alloc (.cells #[.int .i64 x] 3)) base (some ⟨w.heap.size, 0, none⟩) 1 1 [x] := by
  refine ⟨rfl, Nat.le_refl _, w.heap.size, 0, _, rfl, h, heap_alloc_new w _, by simp, fun i hi => ?_⟩
  rw [cellq (heap_alloc_new w _)]
  simp at hi
  subst hi
  rfl
theorem OwnQ.keep {w w' : World} {base : Nat} {A : Option Addr} {n c : Nat} {q : List Int} (h : OwnQ w base A n c q) (hk : ∀ g o, A = some ⟨g, o, none⟩ → w'.heap[g]? = w.heap[g]?) : OwnQ w' base A n c q := by
  obtain ⟨g, o, cur, hA, hb, hh, hs, hc⟩ := h.at_
  have hblk := hk g o hA
  exact ⟨h.len, h.le, g, o, cur, hA, hb, hblk.trans hh, hs, fun i hi => (World.cell?_of_block (a := ⟨g, o + i, none⟩) hblk).trans (hc i hi)⟩
theorem OwnQ.head {w : World} {base : Nat} {A : Option Addr} {n c : Nat} {x : Int} {q : List Int} (h : OwnQ w base A n c (x :: q)) : ∃ g o, A = some ⟨g, o, none⟩ ∧ w.cell? ⟨g, o, none⟩ = some (.int .i64 x) := by
  obtain ⟨g, o, cur, hA, hb, hh, hs, hc⟩ := h.at_
  exact ⟨g, o, hA, by have := hc 0 (by simp); simpa using this⟩
theorem OwnQ.tail {w : World} {base g o n c : Nat} {x : Int} {q : List Int} (h : OwnQ w base (some ⟨g, o, none⟩) n c (x :: q)) : OwnQ w base (if c = 1 then some ⟨g, o, none⟩ else some ⟨g, o + 1, none⟩) (n - 1) (c - 1) q := by
  obtain ⟨g', o', cur, hA, hb, hh, hs, hc⟩ := h.at_
  injection hA with hA
  injection hA with h1 h2
  subst h1 h2
  have hlen := h.len
  have hle := h.le
  simp at hlen
  refine ⟨by omega, by omega, ?_⟩
  split
  · rename_i hc1
    have : q.length = 0 := by omega
    exact ⟨g, o, cur, rfl, hb, hh, by omega, fun i hi => by omega⟩
  · refine ⟨g, o + 1, cur, rfl, hb, hh, by omega, fun i hi => ?_⟩
    have := hc (i + 1) (by simp; omega)
    rw [show o + (i + 1) = o + 1 + i from by omega] at this
    simpa using this

section
variable {P : Program} (w : World)
theorem run_append_q (t ty : TypeId) (base : Nat) (hinfo : (P.info? 3).map (fun i => (i.zero, i.size, i.bytes)) = some (some (.int .i64 0), 1, 8)) (ht : P.underlying t = some (.slice 3))
    (A : Option Addr) (n c : Nat) (q : List Int) (hq : OwnQ w base A n c q) (b c1 : Nat) (y : Int) (hb : w.heap[b]? = some (.cells #[.int .i64 y] 3 (0, 0)))
    (hbytes : (n + 1) * 8 ≤ 140737488355328) (hbase : base ≤ w.heap.size) (hne : ∀ g o, A = some ⟨g, o, none⟩ → g ≠ b) :
    ∃ A' c' w', (Builtin.append_ #[t, t] ty #[.slice A n c, .slice (some ⟨b, 0, none⟩) 1 c1]).run P w = .ok (.slice A' (n + 1) c') w' ∧ OwnQ w' base A' (n + 1) c' (q ++ [y]) ∧ w.grownBy w' (A.map (·.block)) := by
  obtain ⟨i, hi, hz, hsize, hby⟩ := info_parts hinfo
  obtain ⟨g, o, cur, rfl, hbg, hh, hs, hc⟩ := hq.at_
  have hlen := hq.len
  have hnews : ∀ j u, [Value.int .i64 y][j]? = some u → w.cell? ((⟨b, 0, none⟩ : Addr).add j) = some u := fun j u hu => cells_of_new (news := [.int .i64 y]) hb _ rfl j u hu
  have h1c : ∀ u ∈ [Value.int .i64 y], u.oneCell' = true := by simp [Value.oneCell']
  by_cases hroom : n + 1 ≤ c
  · have hcc : ∀ j, j < [Value.int .i64 y].length → (w.cell? ⟨g, o + n * i.size + j, none⟩).isSome = true := by
      intro j hj
      rw [cellq hh, hsize]
      simp at hj ⊢
      omega
    have hff : ∀ j, j < [Value.int .i64 y].length → w.frozen? ⟨g, o + n * i.size + j, none⟩ = false := fun j _ => frozen_of_row w g _ cur 3 hh
    have hr := run_append_room_cells (P := P) w t ty 3 i ht hi g o n c ⟨b, 0, none⟩ 1 c1 [.int .i64 y] (by rw [hsize]; rfl) hnews h1c hroom hcc hff
    rw [hsize, Nat.mul_one] at hr
    have hh' : (w.setCell ⟨g, o + n, none⟩ (.int .i64 y)).heap[g]? = some (.cells (cur.setIfInBounds (o + n) (.int .i64 y)) 3 (0, 0)) := heap_setCell_same w g (o + n) cur 3 _ hh
    refine ⟨_, _, _, hr, ⟨by simp [hlen], hroom, g, o, _, rfl, hbg, hh', by simpa using hs, fun k hk => ?_⟩, ⟨rfl, rfl, rfl, by simp [World.setCells, World.setCell], fun k _ hkr => ?_⟩⟩
    · show (w.setCell ⟨g, o + n, none⟩ (.int .i64 y)).cell? _ = _
      rw [cellq hh']
      by_cases hkn : k = n
      · subst hkn
        simp [hlen, show o + q.length < cur.size by omega]
      · have hk' : k < q.length := by simp at hk; omega
        have := hc k hk'
        rw [cellq hh] at this
        rw [Array.getElem?_setIfInBounds_ne (by omega), this, List.getElem_append_left hk']
    · exact Below.heap_setCell w _ _ k (fun e => hkr (by simp [e]))
  · have holds : ∀ j u, (q.map (Value.int .i64))[j]? = some u → w.cell? ((⟨g, o, none⟩ : Addr).add j) = some u := by
      intro j u hu
      have hj : j < q.length := by have := (List.getElem?_eq_some_iff.1 hu).1; simpa using this
      rw [Addr.add_lit]
      rw [List.getElem?_map, List.getElem?_eq_getElem hj] at hu
      exact (hc j hj).trans hu
    have hr := run_append_grow (P := P) w t ty 3 i (.int .i64 0) ht hi hz ⟨g, o, none⟩ n c (q.map (Value.int .i64)) (by rw [hsize]; simp [hlen]) holds ⟨b, 0, none⟩ 1 c1 [.int .i64 y] (by rw [hsize]; rfl) hnews (by omega) (by omega)
      (growslice_fits (by omega) (by rw [hby]; exact hbytes))
    have hge := grownCap_ge w (n + 1) c 3
    refine ⟨_, _, _, hr, ⟨by simp [hlen], hge, w.heap.size, 0, _, rfl, hbase, heap_alloc_new w.drew _, ?_, fun k hk => ?_⟩, ⟨rfl, rfl, rfl, by simp, fun k hk _ => Below.heap_alloc w.drew _ k hk⟩⟩
    · simp only [Array.size_append, List.size_toArray, size_zeroCells, List.length_map, List.length_singleton]
      simp [Value.cells]
      omega
    · rw [show (w.drew.alloc _).cell? ⟨w.heap.size, 0 + k, none⟩ = _ from cellq (heap_alloc_new w.drew _) (0 + k)]
      have hk' : k < q.length + 1 := by simpa using hk
      rw [Nat.zero_add]
      rw [Array.getElem?_append_left (by simp; omega)]
      have e : (q.map (Value.int .i64)).toArray ++ [Value.int .i64 y].toArray = ((q ++ [y]).map (Value.int .i64)).toArray := by simp
      rw [e, List.getElem?_toArray, List.getElem?_map, List.getElem?_eq_getElem hk]
      rfl
theorem wl_append_q {ops : Array Oper} {rest : List Oper} {o : Oper} {a : Act} {Q : Exit → Act → World → Prop} (hgd : o.guard = none) (s x : Operand) (t : TypeId)
    (ho : o.op = .call { callee := .builtin .append, args := #[s, x], argTypes := #[t, t] }) (base : Nat)
    (hinfo : (P.info? 3).map (fun i => (i.zero, i.size, i.bytes)) = some (some (.int .i64 0), 1, 8)) (ht : P.underlying t = some (.slice 3))
    (A : Option Addr) (n c : Nat) (q : List Int) (hs : a.eval s = .slice A n c) (hq : OwnQ w base A n c q) (b c1 : Nat) (y : Int) (hx : a.eval x = .slice (some ⟨b, 0, none⟩) 1 c1) (hb : w.heap[b]? = some (.cells #[.int .i64 y] 3 (0, 0)))
    (hbytes : (n + 1) * 8 ≤ 140737488355328) (hbase : base ≤ w.heap.size) (hne : ∀ g o, A = some ⟨g, o, none⟩ → g ≠ b)
    (h : ∀ A' c' w', OwnQ w' base A' (n + 1) c' (q ++ [y]) → w.grownBy w' (A.map (·.block)) → wpList P ops Q rest (a.put o.dst (.slice A' (n + 1) c')) w') : wpList P ops Q (o :: rest) a w := by
  obtain ⟨A', c', w', hr, h2, h3⟩ := run_append_q (P := P) w t o.type base hinfo ht A n c q hq b c1 y hb hbytes hbase hne
  refine wpList_plain hgd fun K hK => ?_
  unfold Oper.wp execOp
  simp only [ho, resolve, invoke, builtin, Sem.run_bind, Sem.run_pure, Result.andThen_ok, List.map_toArray, List.map_cons, List.map_nil, hs, hx, hr]
  exact hK _ _ (h A' c' w' h2 h3)
end
end Go.Proofs.Ytjifpjfinffamaa
