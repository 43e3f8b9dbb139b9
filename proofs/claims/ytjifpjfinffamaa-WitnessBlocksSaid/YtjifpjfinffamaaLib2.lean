/- Laws at the operation for append, in the forms that these walks want: one element out of a fresh block; a whole source that may be nil. Rows of the type table. -/
import Derived.Test.YtjifpjfinffamaaLib
namespace Go.Proofs.Ytjifpjfinffamaa
open Go.RowKit

theorem info3 : (Try.prog.info? 3).map (fun i => (i.zero, i.size, i.bytes)) = some (some (.int .i64 0), 1, 8) := by kernel_rfl
theorem info4 : (Try.prog.info? 4).map (fun i => (i.zero, i.size, i.bytes)) = some (some (.bool false), 1, 1) := by kernel_rfl
theorem info31 : (Try.prog.info? 31).map (fun i => (i.zero, i.size, i.bytes)) = some (some (.slice none 0 0), 1, 24) := by kernel_rfl
theorem info40 : (Try.prog.info? 40).map (fun i => (i.zero, i.size, i.bytes)) = some (some (.int .u64 0), 1, 8) := by kernel_rfl
theorem info69 : (Try.prog.info? 69).map (fun i => (i.zero, i.size, i.bytes)) = some (some (.agg #[.int .i64 0, .int .i64 0, .int .i64 0]), 3, 24) := by kernel_rfl

/-- the walk is made to stand still: 'go_wp2_with (at_builtin; refine halt_ ?_)', then 'refine Halt_.go ?_' -/
def Halt_ (p : Prop) : Prop := p
theorem halt_ {p : Prop} (h : Halt_ p) : p := h
theorem Halt_.go {p : Prop} (h : p) : Halt_ p := h

section
variable {P : Program} (w : World)

/-- append(s, y): y lies alone in a fresh block b -/
theorem wl_append1 {ops : Array Oper} {rest : List Oper} {o : Oper} {a : Act} {Q : Exit → Act → World → Prop} (hgd : o.guard = none) (s x : Operand) (t : TypeId)
    (ho : o.op = .call { callee := .builtin .append, args := #[s, x], argTypes := #[t, t] })
    (base E : Nat) (z : Value) (size bytes : Nat) (hinfo : (P.info? E).map (fun i => (i.zero, i.size, i.bytes)) = some (some z, size, bytes)) (ht : P.underlying t = some (.slice E))
    (hzs : z.cells.size = size) (hsz : 0 < size)
    (v : Value) (n : Nat) (xs : List Value) (hs : a.eval s = v) (hown : w.ownsRow base E size v n xs)
    (b c1 : Nat) (news : List Value) (hx : a.eval x = .slice (some ⟨b, 0, none⟩) 1 c1) (hb : w.heap[b]? = some (.cells news.toArray E (0, 0))) (hl : news.length = size) (h1 : ∀ u ∈ news, u.oneCell' = true)
    (hbytes : (n + 1) * bytes ≤ 140737488355328) (h63 : n + 1 ≤ 140737488355328) (hbase : base ≤ w.heap.size) (H : Nat) (hH : w.heap.size = H)
    (h : ∀ g cap w', w'.ownsRow base E size (.slice (some ⟨g, 0, none⟩) (n + 1) cap) (n + 1) (xs ++ news) → w.grownBy w' v.ownBlock → (v.ownBlock = some g ∨ g = H) → g < w'.heap.size → wpList P ops Q rest (a.put o.dst (.slice (some ⟨g, 0, none⟩) (n + 1) cap)) w') :
    wpList P ops Q (o :: rest) a w := by
  obtain ⟨i, hi, hz, hsize, hby⟩ := info_parts hinfo
  refine wpList_append_lies w hgd s x t ho base E i z size bytes ht hi hz hsize hby hzs hsz v n xs hs hown ⟨b, 0, none⟩ 1 c1 news hx (by omega) ?_ h1 (by omega) (by unfold maxLen; omega) hbytes hbase H hH h
  intro j u hu
  rw [Addr.add_lit, Nat.zero_add, cell_of_row w b j news.toArray E (0, 0) hb]
  simpa using hu

theorem run_append_src (t ty : TypeId) (base E : Nat) (z : Value) (size bytes : Nat) (hinfo : (P.info? E).map (fun i => (i.zero, i.size, i.bytes)) = some (some z, size, bytes)) (ht : P.underlying t = some (.slice E))
    (hzs : z.cells.size = size) (hsz : 0 < size) (v : Value) (n : Nat) (xs : List Value) (hown : w.ownsRow base E size v n xs)
    (A : Option Addr) (m c : Nat) (news : List Value) (hl : news.length = m * size) (hnone : A = none → m = 0) (hcells : ∀ ad, A = some ad → ∀ j u, news[j]? = some u → w.cell? (ad.add j) = some u)
    (h1 : ∀ u ∈ news, u.oneCell' = true) (hbytes : (n + m) * bytes ≤ 140737488355328) (h63 : n + m ≤ 140737488355328) (hbase : base ≤ w.heap.size) :
    ∃ v' w', (Builtin.append_ #[t, t] ty #[v, .slice A m c]).run P w = .ok v' w' ∧ w'.ownsRow base E size v' (n + m) (xs ++ news) ∧ w.grownBy w' v.ownBlock ∧
      (v' = .slice none 0 0 → v = .slice none 0 0 ∧ m = 0) := by
  obtain ⟨i, hi, hz, hsize, hby⟩ := info_parts hinfo
  cases A with
  | none =>
    have hm := hnone rfl
    subst hm
    have hn : news = [] := List.eq_nil_of_length_eq_zero (by simpa using hl)
    subst hn
    refine ⟨v, w, ?_, by simpa using hown, World.grownBy.refl w _, fun h => ⟨h, rfl⟩⟩
    rcases hown.2 with ⟨rfl, rfl⟩ | ⟨g, cap, cur, rfl, _, _, hnc, _⟩
    · simp [Builtin.append_, run_underlying ht, sizeOf, typeInfo, hi, Builtin.lenOf, Builtin.firstCells]
    · simp [Builtin.append_, run_underlying ht, sizeOf, typeInfo, hi, Builtin.lenOf, Builtin.firstCells, hnc, storeCells]
  | some ad =>
    obtain ⟨v', w', hr, h2, h3, h4⟩ := run_append_own (P := P) w base t ty E i z size bytes ht hi hz hsize hby hzs hsz v n xs hown ad m c news hl (hcells ad rfl) h1 (by unfold maxLen; omega) hbytes hbase
    exact ⟨v', w', hr, h2, h3, h4.1⟩

/-- append(s, src...): the source may be nil -/
theorem wl_append_src {ops : Array Oper} {rest : List Oper} {o : Oper} {a : Act} {Q : Exit → Act → World → Prop} (hgd : o.guard = none) (s x : Operand) (t : TypeId)
    (ho : o.op = .call { callee := .builtin .append, args := #[s, x], argTypes := #[t, t] })
    (base E : Nat) (z : Value) (size bytes : Nat) (hinfo : (P.info? E).map (fun i => (i.zero, i.size, i.bytes)) = some (some z, size, bytes)) (ht : P.underlying t = some (.slice E))
    (hzs : z.cells.size = size) (hsz : 0 < size) (v : Value) (n : Nat) (xs : List Value) (hs : a.eval s = v) (hown : w.ownsRow base E size v n xs)
    (A : Option Addr) (m c : Nat) (news : List Value) (hx : a.eval x = .slice A m c) (hl : news.length = m * size) (hnone : A = none → m = 0) (hcells : ∀ ad, A = some ad → ∀ j u, news[j]? = some u → w.cell? (ad.add j) = some u)
    (h1 : ∀ u ∈ news, u.oneCell' = true) (hbytes : (n + m) * bytes ≤ 140737488355328) (h63 : n + m ≤ 140737488355328) (hbase : base ≤ w.heap.size)
    (h : ∀ A' c' w', w'.ownsRow base E size (.slice A' (n + m) c') (n + m) (xs ++ news) → w.grownBy w' v.ownBlock → (A' = none → v = .slice none 0 0) → wpList P ops Q rest (a.put o.dst (.slice A' (n + m) c')) w') :
    wpList P ops Q (o :: rest) a w := by
  obtain ⟨v', w', hr, h2, h3, h4⟩ := run_append_src (P := P) w t o.type base E z size bytes hinfo ht hzs hsz v n xs hown A m c news hl hnone hcells h1 hbytes h63 hbase
  refine wpList_plain hgd fun K hK => ?_
  unfold Oper.wp execOp
  simp only [ho, resolve, invoke, builtin, Sem.run_bind, Sem.run_pure, Result.andThen_ok, List.map_toArray, List.map_cons, List.map_nil, hs, hx, hr]
  rcases h2.2 with ⟨rfl, h0⟩ | ⟨g, cap, cur, rfl, hrest⟩
  · have := h none 0 w'
    rw [h0] at this h2
    exact hK _ _ (this h2 h3 fun _ => (h4 rfl).1)
  · exact hK _ _ (h _ _ w' h2 h3 (fun hc => by cases hc))
end

theorem own_cap {w : World} {base e size n c : Nat} {A : Option Addr} {xs : List Value} (h : w.ownsRow base e size (.slice A n c) n xs) : n ≤ c ∧ c ≤ maxLen := by
  rcases h.2 with ⟨hn, _⟩ | ⟨g', cap', cur, hv, _, _, hnc, hcm, _⟩
  · injection hn with _ h2 h3
    subst h2 h3
    exact ⟨Nat.le_refl _, Nat.zero_le _⟩
  · injection hv with _ _ h3
    subst h3
    exact ⟨hnc, hcm⟩
theorem own_base {w : World} {base base' e size n : Nat} {v : Value} {xs : List Value} (h : w.ownsRow base e size v n xs) (hb : base' ≤ base) : w.ownsRow base' e size v n xs := by
  refine ⟨h.1, ?_⟩
  rcases h.2 with hn | ⟨g, cap, cur, hv, hg, rest⟩
  · exact .inl hn
  · exact .inr ⟨g, cap, cur, hv, by omega, rest⟩
theorem cells_of_new {w : World} {b : Nat} {news : List Value} {E : Nat} {fr : Nat × Nat} (hb : w.heap[b]? = some (.cells news.toArray E fr)) :
    ∀ ad, (some ⟨b, 0, none⟩ : Option Addr) = some ad → ∀ j u, news[j]? = some u → w.cell? (ad.add j) = some u := by
  intro ad h j u hu
  injection h with h
  subst h
  rw [Addr.add_lit, Nat.zero_add, cell_of_row w b j news.toArray E fr hb]
  simpa using hu
/-- the cells of a source of edges -/
def ecells (e : E) : List Value := [.int .i64 e.f, .int .i64 e.t, .int .i64 e.k]
theorem ecells_len (l : List E) : (l.flatMap ecells).length = l.length * 3 := by
  induction l with
  | nil => rfl
  | cons e r ih => simp [List.flatMap_cons, ih, ecells]; omega
theorem ecells_get : ∀ (l : List E) (i : Nat) (h : i < l.length), (l.flatMap ecells)[i * 3]? = some (.int .i64 l[i].f) ∧ (l.flatMap ecells)[i * 3 + 1]? = some (.int .i64 l[i].t) ∧ (l.flatMap ecells)[i * 3 + 2]? = some (.int .i64 l[i].k)
  | [], i, h => by simp at h
  | e :: r, 0, h => by simp [List.flatMap_cons, ecells]
  | e :: r, i + 1, h => by
    have hi : i < r.length := by simpa using h
    have := ecells_get r i hi
    have e1 : (i + 1) * 3 = i * 3 + 3 := by omega
    have l3 : (ecells e).length = 3 := rfl
    rw [List.flatMap_cons, e1]
    refine ⟨?_, ?_, ?_⟩ <;> rw [List.getElem?_append_right (by rw [l3]; omega), l3]
    · simpa using this.1
    · rw [show i * 3 + 3 + 1 - 3 = i * 3 + 1 from by omega]; simpa using this.2.1
    · rw [show i * 3 + 3 + 2 - 3 = i * 3 + 2 from by omega]; simpa using this.2.2
theorem ecells_one (l : List E) : ∀ u ∈ l.flatMap ecells, u.oneCell' = true := by
  intro u hu
  obtain ⟨e, _, hu⟩ := List.mem_flatMap.1 hu
  simp [ecells] at hu
  rcases hu with rfl | rfl | rfl <;> rfl
theorem RE.cells {w : World} {B : Nat} {A : Option Addr} {l : List E} (h : RE w B A l) : ∀ ad, A = some ad → ∀ j u, (l.flatMap ecells)[j]? = some u → w.cell? (ad.add j) = some u := by
  intro ad hA j u hu
  have hj : j < l.length * 3 := by
    have := (List.getElem?_eq_some_iff.1 hu).1
    rwa [ecells_len] at this
  obtain ⟨b, off, e, hb, hc⟩ := h (by omega)
  rw [hA] at e
  injection e with e
  subst e
  rw [Addr.add_lit]
  have hi : j / 3 < l.length := by omega
  have hc' := hc (j / 3) hi
  have hg := ecells_get l (j / 3) hi
  have h3 : j % 3 = 0 ∨ j % 3 = 1 ∨ j % 3 = 2 := by omega
  rcases h3 with h3 | h3 | h3
  · have ej : j = j / 3 * 3 := by omega
    rw [ej] at hu ⊢
    rw [hg.1] at hu
    exact hc'.1.trans hu
  · have ej : j = j / 3 * 3 + 1 := by omega
    rw [ej] at hu ⊢
    rw [hg.2.1] at hu
    exact hc'.2.1.trans hu
  · have ej : j = j / 3 * 3 + 2 := by omega
    rw [ej] at hu ⊢
    rw [hg.2.2] at hu
    exact hc'.2.2.trans hu
theorem RE.none_ {w : World} {B : Nat} {A : Option Addr} {l : List E} (h : RE w B A l) (hA : A = none) : l.length = 0 := by
  rcases Nat.eq_zero_or_pos l.length with h0 | h0
  · exact h0
  · obtain ⟨b, off, e, _⟩ := h h0
    rw [hA] at e; cases e
theorem RK.cells {kd : IntKind} {w : World} {B : Nat} {A : Option Addr} {xs : List Int} (h : RK kd w B A xs) : ∀ ad, A = some ad → ∀ j u, (xs.map (Value.int kd))[j]? = some u → w.cell? (ad.add j) = some u := by
  intro ad hA j u hu
  have hj : j < xs.length := by
    have := (List.getElem?_eq_some_iff.1 hu).1
    rwa [List.length_map] at this
  obtain ⟨b, off, e, hb, hc⟩ := h (by omega)
  rw [hA] at e
  injection e with e
  subst e
  rw [Addr.add_lit]
  rw [List.getElem?_map, List.getElem?_eq_getElem hj] at hu
  exact (hc j hj).trans hu
theorem RK.none_ {kd : IntKind} {w : World} {B : Nat} {A : Option Addr} {xs : List Int} (h : RK kd w B A xs) (hA : A = none) : xs.length = 0 := by
  rcases Nat.eq_zero_or_pos xs.length with h0 | h0
  · exact h0
  · obtain ⟨b, off, e, _⟩ := h h0
    rw [hA] at e; cases e
theorem RE.of_own {w : World} {base n : Nat} {A : Option Addr} {c : Nat} {l : List E} {more : List Value} (h : w.ownsRow base 69 3 (.slice A n c) n (l.flatMap ecells ++ more)) : RE w w.heap.size A l := by
  intro hn
  have hlen := h.1
  rw [List.length_append, ecells_len] at hlen
  obtain ⟨g, cap, hv, _, hlt⟩ := h.form (by omega)
  have hA : A = some ⟨g, 0, none⟩ := by injection hv
  subst hA
  refine ⟨g, 0, rfl, hlt, fun i hi => ?_⟩
  have hg := ecells_get l i hi
  have hcell : ∀ j u, (l.flatMap ecells)[j]? = some u → w.cell? ⟨g, 0 + j, none⟩ = some u := by
    intro j u hu
    have := h.cells (g := g) rfl j u (by rw [List.getElem?_append_left (List.getElem?_eq_some_iff.1 hu).1]; exact hu)
    rw [Addr.add_lit] at this
    exact this
  exact ⟨hcell _ _ hg.1, hcell _ _ hg.2.1, hcell _ _ hg.2.2⟩
end Go.Proofs.Ytjifpjfinffamaa
