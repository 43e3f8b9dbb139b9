/- Walk: the document's own Order. -/
import Derived.Test.YtjifpjfinffamaaWA
namespace Go.Proofs.Ytjifpjfinffamaa
open Go.RowKit

def bools (N : Nat) (xs : List Int) : List Value := (List.range N).map fun v : Nat => Value.bool (decide ((v : Int) ∈ xs))
theorem bools_get {N : Nat} {xs : List Int} {v : Nat} (hv : v < N) : (bools N xs)[v]? = some (.bool (decide ((v : Int) ∈ xs))) := by simp [bools, hv]
theorem bools_set {N : Nat} {xs : List Int} {x : Nat} : bools N (xs ++ [(x : Int)]) = (bools N xs).set x (.bool true) := by
  apply List.ext_getElem?
  intro v
  by_cases hv : v < N
  · rw [bools_get hv]
    by_cases e : v = x
    · subst e
      rw [List.getElem?_set_self (by simpa [bools] using hv)]
      simp
    · rw [List.getElem?_set_ne (fun e' => e e'.symm), bools_get hv]
      have : ¬ (v : Int) = (x : Int) := by omega
      simp [List.mem_append, this]
  · rw [List.getElem?_eq_none (by simp [bools]; omega), List.getElem?_eq_none (by simp [bools]; omega)]
structure RW (N g0 g1 : Nat) (w wr : World) (xs ah : List Int) (B : Option Addr) (cB : Nat) : Prop where
  order : OwnI wr (g1 + 1) B cB xs
  ahead : wr.ownsRow g0 3 1 (.slice (some ⟨g0, 0, none⟩) N N) N (ints ah)
  done : wr.ownsRow g0 4 1 (.slice (some ⟨g1, 0, none⟩) N N) N (bools N xs)
  below : Below g0 w wr
  lt : g0 < g1
theorem row_kept {w w' : World} {base e g n c : Nat} {xs : List Value} (h : w.ownsRow base e 1 (.slice (some ⟨g, 0, none⟩) n c) n xs) (hk : w'.heap[g]? = w.heap[g]?) : w'.ownsRow base e 1 (.slice (some ⟨g, 0, none⟩) n c) n xs := by
  refine ⟨h.1, ?_⟩
  rcases h.2 with h2 | ⟨g', cap, cur, hv, hbg, hh, h3⟩
  · exact .inl h2
  · refine .inr ⟨g', cap, cur, hv, hbg, ?_, h3⟩
    injection hv with hv
    injection hv with hv
    injection hv with hv
    rw [← hv, hk, hv]
    exact hh
theorem RW.setA {N g0 g1 : Nat} {w wr : World} {xs ah : List Int} {B : Option Addr} {cB : Nat} (h : RW N g0 g1 w wr xs ah B cB) (t : Nat) (x : Int) : RW N g0 g1 w (wr.setCell ⟨g0, t, none⟩ (.int .i64 x)) xs (ah.set t x) B cB := by
  have hl := h.lt
  have ho : ∀ k, k ≠ g0 → (wr.setCell ⟨g0, t, none⟩ (.int .i64 x)).heap[k]? = wr.heap[k]? := fun k hk => heap_setCell_other wr ⟨g0, t, none⟩ k _ (by simpa using hk)
  exact ⟨h.order.kept fun k hk => ho k (by have := (h.order.lt k hk).1; omega), own_set h.ahead t x, row_kept h.done (ho g1 (by omega)), h.below.setCell (Nat.le_refl _) _, hl⟩
/-- node x is done, and stands last in the order -/
theorem RW.push {N g0 g1 x g c' : Nat} {w wr w1 w2 : World} {xs ah : List Int} {B : Option Addr} {cB : Nat} (h : RW N g0 g1 w wr xs ah B cB) (hw1 : w1 = wr.setCell ⟨g1, x, none⟩ (.bool true)) (o : Obj)
    (hown : w2.ownsRow (g1 + 1) 3 1 (.slice (some ⟨g, 0, none⟩) (xs.length + 1) c') (xs.length + 1) (ints xs ++ [.int .i64 (x : Int)])) (hg : (w1.alloc o).grownBy w2 (Value.slice B xs.length cB).ownBlock) :
    RW N g0 g1 w w2 (xs ++ [(x : Int)]) ah (some ⟨g, 0, none⟩) c' := by
  have hl := h.lt
  have hlt := h.order.lt
  have hsz : wr.heap.size = w1.heap.size := by rw [hw1]; simp
  have ho : ∀ k, k ≠ g1 → k < wr.heap.size → (Value.slice B xs.length cB).ownBlock ≠ some k → w2.heap[k]? = wr.heap[k]? := by
    intro k hk hkw hne
    rw [hg.block k (by simp; omega) (fun e => hne e.symm), Go.heap_alloc_old w1 o (by omega), hw1]
    exact heap_setCell_other wr ⟨g1, x, none⟩ k _ (by simpa using hk)
  have hd := (h.done.stored x (.bool true)).1
  rw [← bools_set, ← hw1] at hd
  have hg1w := (h.done.lt g1 rfl).2
  have hg0w := (h.ahead.lt g0 rfl).2
  refine ⟨?_, row_kept h.ahead (ho g0 (by omega) hg0w (fun e => by have := (hlt g0 e).1; omega)), row_kept hd ?_, ?_, hl⟩
  · unfold OwnI
    have e : ints (xs ++ [(x : Int)]) = ints xs ++ [Value.int .i64 (x : Int)] := by simp [ints]
    rw [e, show (xs ++ [(x : Int)]).length = xs.length + 1 from by simp]
    exact hown
  · rw [hg.block g1 (by simp; omega) (fun e => by have := (hlt g1 e.symm).1; omega), Go.heap_alloc_old w1 o (by omega)]
  · have h1 : Below g0 w w1 := by rw [hw1]; exact h.below.setCell (p := ⟨g1, x, none⟩) (Nat.le_of_lt hl) _
    exact (h1.alloc (by omega) o).grown hg (by simp; omega) fun k hk => by have := (hlt k hk).1; omega
/-- struck out while the edges of x are looked for: those below k too -/
def DK (l : List E) (xs : List Int) (x k : Nat) : Nat → Bool := fun j => decide ((eg l j).f ∈ xs) || (decide ((eg l j).f = (x : Int)) && decide (j < k))
theorem DK.start (l : List E) (xs : List Int) (x : Nat) : ∀ j, j < l.length → DX l xs j = DK l xs x 0 j := by
  intro j _
  simp [DK, DX]
theorem DK.fin (l : List E) (xs : List Int) (x : Nat) : ∀ j, j < l.length → DK l xs x l.length j = DX l (xs ++ [(x : Int)]) j := by
  intro j hj
  simp [DK, DX, hj, List.mem_append]
theorem DK.hit {l : List E} {xs : List Int} {x k : Nat} (hx : (x : Int) ∉ xs) (hf : (eg l k).f = (x : Int)) : DK l xs x k k = false ∧ ∀ j, j < l.length → DK l xs x (k + 1) j = del (DK l xs x k) k j := by
  constructor
  · unfold DK
    rw [hf]
    simp [hx]
  · intro j _
    unfold DK del
    by_cases e : j = k
    · subst e; simp [hf]
    · have : (j < k + 1) = (j < k) := by apply propext; omega
      simp [e, this]
theorem DK.miss {l : List E} {xs : List Int} {x k : Nat} (hf : (eg l k).f ≠ (x : Int)) : ∀ j, j < l.length → DK l xs x k j = DK l xs x (k + 1) j := by
  intro j _
  unfold DK
  by_cases e : j = k
  · subst e; simp [hf]
  · have : (j < k + 1) = (j < k) := by apply propext; omega
    simp [this]
/-- none below b may stand next -/
def NoR (N : Nat) (l : List E) (D : Nat → Bool) (xs : List Int) (b : Nat) : Prop := ∀ v : Nat, v < b → v < N → (v : Int) ∉ xs → cnt l D (v : Int) ≠ 0
theorem NoR.congr {N : Nat} {l : List E} {D D' : Nat → Bool} {xs : List Int} {b : Nat} (h : NoR N l D xs b) (hd : ∀ j, j < l.length → D j = D' j) : NoR N l D' xs b := fun v h1 h2 h3 => by rw [← cnt_congr hd]; exact h v h1 h2 h3
theorem NoR.del {N : Nat} {l : List E} {D : Nat → Bool} {xs : List Int} {b b' k t : Nat} (h : NoR N l D xs b) (ht : (eg l k).t = (t : Int)) (hb : b' ≤ b) (h0 : cnt l (del D k) (t : Int) = 0 → b' ≤ t) : NoR N l (del D k) xs b' := by
  intro v h1 h2 h3
  by_cases e : v = t
  · subst e
    intro hc
    have := h0 hc
    omega
  · rw [cnt_miss (by rw [ht]; omega)]
    exact h v (by omega) h2 h3
theorem Nat.lex_lt {N a i b j : Nat} (h : a < b) (hi : i ≤ N) : a * (N + 1) + i < b * (N + 1) + j := by
  have : (a + 1) * (N + 1) ≤ b * (N + 1) := Nat.mul_le_mul_right _ h
  rw [Nat.succ_mul] at this
  omega

set_option linter.unusedSimpArgs false in
set_option maxRecDepth 100000 in
set_option maxHeartbeats 3200000 in
theorem refOrder_any (n : Int) (A : Option Addr) (cap : Nat) (l : List E) (w : World) (hl : l.length * 24 ≤ 140737488351232) (hc : RE w w.heap.size A l) :
    Calls Try.prog 41 #[.int .i64 n, .slice A l.length cap] w (OrderEnds n l w) := by
  by_cases hR : rightB n l = true
  · obtain ⟨N, rfl, hN, ok⟩ := right_ok hR
    have hri := refRight_any (N : Int) A cap l w (by omega) hc
    rw [hR] at hri
    have HRI := Lib.hid hri
    have HOK := Lib.hid ok
    have HR := Lib.hid hR
    have HC := Lib.hid hc
    clear ok hR hri hc
    go_enter Try.func41, Try.ntmps41
    go_wp2_with (first
      | (go_at_call 70; refine HRI.out.mono ?_; rintro e w1 ⟨rfl, rfl⟩)
      | (at_make; refine halt_ ?_))
    refine Halt_.go ?_
    obtain ⟨i0, hi, hz0, hz1, hz2⟩ := info_parts info3
    refine wpList_make_full _ rfl _ _ 31 rfl w.heap.size 3 i0 _ 1 Try.underlying31 hi hz0 hz1 _ _ _ _ N (by rfl) (by rfl) rfl rfl (by rw [hz2]; omega) (by unfold maxLen; omega) (Nat.le_refl _) ?_
    intro w2 hown1 hgrow1
    have hds : (madeCells (Value.int .i64 0).cells (N * 1)).toList = ints (List.replicate N 0) := by
      rw [show (Value.int .i64 0).cells = #[Value.int .i64 0] from rfl, toList_madeCells_one, Nat.mul_one]
      simp [ints]
    rw [hds] at hown1
    have hb1 : Below w.heap.size w w2 := (Below.refl _ _).grown hgrow1 (Nat.le_refl _) (fun g hg => by cases hg)
    obtain ⟨g0, hg0⟩ : ∃ g0, w.heap.size = g0 := ⟨_, rfl⟩
    rw [hg0] at hown1 hb1
    rw [hg0]
    have HO1 := Lib.hid hown1
    have HB1 := Lib.hid hb1
    have HG0 := Lib.hid hg0
    clear hds hgrow1 hi hz0 hz1 hz2 hown1 hb1
    go_wp2_with (at_make; refine halt_ ?_)
    refine Halt_.go ?_
    obtain ⟨i0, hi, hz0, hz1, hz2⟩ := info_parts info4
    refine wpList_make_full _ rfl _ _ 90 rfl g0 4 i0 _ 1 Try.underlying90 hi hz0 hz1 _ _ _ _ N (by rfl) (by rfl) rfl rfl (by rw [hz2]; omega) (by unfold maxLen; omega) (by have := HB1.out.size; rw [hg0] at this; exact this) ?_
    intro w3 hown2 hgrow2
    obtain ⟨g1, hg1⟩ : ∃ g1, w2.heap.size = g1 := ⟨_, rfl⟩
    have hg01 : g0 < g1 := by rw [← hg1]; exact (HO1.out.lt g0 rfl).2
    have hds : (madeCells (Value.bool false).cells (N * 1)).toList = bools N [] := by
      rw [show (Value.bool false).cells = #[Value.bool false] from rfl, toList_madeCells_one, Nat.mul_one]
      simp [bools, List.map_const']
    rw [hds, hg1] at hown2
    rw [hg1]
    have hrw : RW N g0 g1 w w3 [] (List.replicate N 0) none 0 := ⟨OwnI.nil _ _, HO1.out.kept hgrow2 (.inr (by simp [Value.ownBlock])), hown2, HB1.out.grown hgrow2 (by have := (HO1.out.lt g0 rfl).2; omega) (fun g hg => by cases hg), hg01⟩
    have HRW := Lib.hid hrw
    clear hds hgrow2 hi hz0 hz1 hz2 hown2 HO1 HB1 hg1 hrw
    go_wp2
    go_loopw [8] (fun i wr => ∃ (k : Nat) (ah : List Int), k ≤ l.length ∧ i = .int .i64 k ∧ Hid (RW N g0 g1 w wr [] ah none 0) ∧ OI N l (fun j => decide (k ≤ j)) [] ah) (fun i _ => l.length - (intOf i).toNat)
    case atStart => exact ⟨0, _, Nat.zero_le _, rfl, HRW, OI.start N l⟩
    case round =>
      clear HRW
      obtain ⟨k, ah, hk, rfl, HRW, hoi⟩ := hrel
      by_cases hlt : k < l.length
      · obtain ⟨eb, eo, f, t, kk, rfl, heb, he, he1, he2, he3⟩ := HC.out.at_ (HRW.out.below.mono (Nat.le_of_eq HG0.out)) hlt
        have heg : eg l k = ⟨f, t, kk⟩ := by simp [eg, List.getD, he.out]
        have hmem := HOK.out _ (List.mem_of_getElem? he.out)
        simp only at hmem
        obtain ⟨t, rfl⟩ := Int.eq_ofNat_of_zero_le hmem.2.1
        have htN : t < N := by have := hmem.2.2; omega
        have hal := hoi.len
        have hbd := hoi.bound t htN
        have h2 := hoi.count hlt (by rw [heg]) htN
        have hcell : wr.cell? ⟨g0, t, none⟩ = some (.int .i64 (nth ah t)) := by
          rw [HRW.out.ahead.cellAt t (by omega)]
          simp [ints, nth_some (show t < ah.length by omega)]
        have hfr := HRW.out.ahead.frozenAt t
        have hset := HRW.out.setA t (nth ah t + 1)
        have i1 : (0 : Int) ≤ (t : Int) := by omega
        have i2 : (t : Int) < (N : Int) := by omega
        have i3 : (0 : Int) ≤ (k : Int) := by omega
        have i4 : (k : Int) < (l.length : Int) := by omega
        have H2 := Lib.hid h2
        have HS := Lib.hid hset
        clear h2 hset heg hmem he hoi
        go_wp2
        go_roundw
        case rel => exact ⟨k + 1, _, hlt, by go_num, HS, H2.out⟩
        case measure => simp [intOf]; omega
      · have hkl : k = l.length := by omega
        subst hkl
        have h0 := Lib.hid hoi.counted
        clear hoi
        go_wp2
        go_loopg [9, 10] ((N + 1) * (N + 1)) (fun gk v iv wr => ∃ (xs ah : List Int) (B : Option Addr) (cB i : Nat), v = .slice B xs.length cB ∧ iv = .int .i64 i ∧ i ≤ N ∧ Hid (RW N g0 g1 w wr xs ah B cB) ∧ Hid (Gr N l xs) ∧ Hid (OI N l (DX l xs) xs ah) ∧ Hid (NoR N l (DX l xs) xs i) ∧ (N - xs.length) * (N + 1) + (N - i) ≤ gk)
        case atStart => exact ⟨[], ah, none, 0, 0, rfl, rfl, Nat.zero_le _, HRW, Lib.hid Gr.nil, h0, Lib.hid fun v h => absurd h (Nat.not_lt_zero _), by simp; rw [Nat.succ_mul]; omega⟩
        case round =>
          clear HRW h0
          obtain ⟨xs, ah, B, cB, i, rfl, rfl, hiN, HRW, HG, H0, HNR, hgk⟩ := hrel
          have hxl := HG.out.le
          by_cases hlt : i < N
          · have hcd : wr.cell? ⟨g1, i, none⟩ = some (.bool (decide ((i : Int) ∈ xs))) := by
              rw [HRW.out.done.cellAt i (by omega)]
              exact bools_get hlt
            have hal := H0.out.len
            have hca : wr.cell? ⟨g0, i, none⟩ = some (.int .i64 (nth ah i)) := by
              rw [HRW.out.ahead.cellAt i (by omega)]
              simp [ints, nth_some (show i < ah.length by omega)]
            have hval := H0.out.val i hlt
            have i1 : (0 : Int) ≤ (i : Int) := by omega
            have i2 : (i : Int) < (N : Int) := by omega
            obtain ⟨z, hz⟩ : ∃ z, nth ah i = z := ⟨_, rfl⟩
            rw [hz] at hca hval
            have hnxt : (¬ rdy N l xs (i : Int)) → Hid (NoR N l (DX l xs) xs (i + 1)) := fun hn => Lib.hid fun v h1 h2 h3 h4 => by
              rcases Nat.lt_or_ge v i with h | h
              · exact HNR.out v h h2 h3 h4
              · obtain rfl : v = i := by omega
                exact hn ⟨by omega, by omega, h3, h4⟩
            have HNX := Lib.hid hnxt
            have HV := Lib.hid hval
            clear hnxt hz hval
            by_cases hm : (i : Int) ∈ xs
            · rw [show decide ((i : Int) ∈ xs) = true from by simp [hm]] at hcd
              have hn2 := HNX.out (fun h => h.2.2.1 hm)
              clear hm
              go_wp2
              go_roundg ((N - xs.length) * (N + 1) + (N - (i + 1)))
              case measure => omega
              case rel => exact ⟨xs, ah, B, cB, i + 1, rfl, by go_num, hlt, HRW, HG, H0, hn2, Nat.le_refl _⟩
            · rw [show decide ((i : Int) ∈ xs) = false from by simp [hm]] at hcd
              by_cases hz0 : 0 < z
              · have hn2 := HNX.out (fun h => by have := h.2.2.2; have := HV.out; omega)
                clear hm
                go_wp2
                go_roundg ((N - xs.length) * (N + 1) + (N - (i + 1)))
                case measure => omega
                case rel => exact ⟨xs, ah, B, cB, i + 1, rfl, by go_num, hlt, HRW, HG, H0, hn2, Nat.le_refl _⟩
              · obtain ⟨x, hx⟩ : ∃ x, x = i := ⟨_, rfl⟩
                subst hx
                have hz1 : z = 0 := by have := HV.out; omega
                have hcn : cnt l (DX l xs) (x : Int) = 0 := by have := HV.out; omega
                have hrd : rdy N l xs (x : Int) := ⟨i1, i2, hm, hcn⟩
                have hG2 := HG.out.snoc hrd fun u hu => by
                  obtain ⟨u, rfl⟩ := Int.eq_ofNat_of_zero_le hu.1
                  have h1 := hu.2.1
                  have h2 := hu.2.2.1
                  have h3 := hu.2.2.2
                  rcases Nat.lt_or_ge u x with h | h
                  · exact absurd h3 (HNR.out u h (by omega) h2)
                  · omega
                have h02 : OI N l (DX l xs) (xs ++ [(x : Int)]) ah := ⟨H0.out.len, H0.out.val, fun v hv => by
                  rcases List.mem_append.1 hv with h | h
                  · exact H0.out.done v h
                  · rw [List.mem_singleton] at h; rw [h]; exact hcn⟩
                have hnr2 : NoR N l (DX l xs) (xs ++ [(x : Int)]) (x + 1) := by
                  intro v h1 h2 h3
                  rw [List.mem_append, List.mem_singleton] at h3
                  rcases Nat.lt_or_ge v x with h | h
                  · exact HNR.out v h h2 (fun h' => h3 (.inl h'))
                  · exact absurd (.inr (by omega)) h3
                have hxl2 := hG2.le
                have hlx : xs.length < N := by simp at hxl2; omega
                have hfd := HRW.out.done.frozenAt x
                have hg1w := (HRW.out.done.lt g1 rfl).2
                have how0 := HRW.out.order
                have HXS := Lib.hid hm
                have HG2 := Lib.hid hG2
                have H02 := Lib.hid (h02.congr (DK.start l xs x))
                have HN2 := Lib.hid (hnr2.congr (DK.start l xs x))
                have HOW0 := Lib.hid how0
                obtain ⟨w5, hw5⟩ : ∃ w5, w5 = wr.setCell ⟨g1, x, none⟩ (.bool true) := ⟨_, rfl⟩
                have how5 : OwnI w5 (g1 + 1) B cB xs := by
                  rw [hw5]
                  exact HOW0.out.kept fun k hk => heap_setCell_other wr ⟨g1, x, none⟩ k _ (by have := (HOW0.out.lt k hk).1; simp; omega)
                have hw5s : w5.heap.size = wr.heap.size := by rw [hw5]; simp
                have HOW5 := Lib.hid how5
                have HW5 := Lib.hid hw5
                clear hrd hG2 h02 hnr2 hxl2 hm hcn HNX how0 how5
                subst hz1
                go_wp2_with (at_builtin; refine halt_ ?_)
                refine Halt_.go ?_
                rw [← HW5.out]
                refine wl_append1 _ (by rfl) (.tmp 56) (.tmp 58) 31 (by rfl) (g1 + 1) 3 _ 1 8 info3 Try.underlying31 rfl (by decide) (.slice B xs.length cB) xs.length (ints xs) (by rfl) (World.ownsRow.alloc HOW5.out _) wr.heap.size 1 [.int .i64 (x : Int)] (by rfl) (heap_at _ _ _ hw5s) rfl (by simp [Value.oneCell']) (by omega) (by omega) (by simp; omega) _ rfl ?_
                intro g cB' w6 hown6 hgr6 hrow6 hlt6
                have hrw6 := HRW.out.push HW5.out (.cells #[.int .i64 (x : Int)] 3) hown6 hgr6
                obtain ⟨ys, hys⟩ : ∃ ys, xs ++ [(x : Int)] = ys := ⟨_, rfl⟩
                have hyl : xs.length + 1 = ys.length := by rw [← hys]; simp
                rw [hyl]
                have HYL := Lib.hid hyl
                have HYS := Lib.hid hys
                rw [hys] at hrw6
                have HRW6 := Lib.hid hrw6
                have HG3 := Lib.hid (hys ▸ HG2.out)
                have H03 := Lib.hid (hys ▸ H02.out)
                have HN3 := Lib.hid (hys ▸ HN2.out)
                clear hys hyl hrw6 hown6 hgr6 hrow6 hlt6 HG2 H02 HN2 HOW0 HOW5 HW5 hw5 hw5s hfd hcd hca HRW H0 HNR HG
                go_wp2
                go_loopw [12, 11] (fun kv nv wr => ∃ (k nx : Nat) (ah : List Int), k ≤ l.length ∧ kv = .int .i64 k ∧ nv = .int .i64 nx ∧ nx ≤ x + 1 ∧ Hid (RW N g0 g1 w wr ys ah (some ⟨g, 0, none⟩) cB') ∧ Hid (OI N l (DK l xs x k) ys ah) ∧ Hid (NoR N l (DK l xs x k) ys nx)) (fun kv nv _ => l.length - (intOf kv).toNat)
                case atStart => exact ⟨0, x + 1, _, Nat.zero_le _, rfl, by go_num, Nat.le_refl _, HRW6, H03, HN3⟩
                case round =>
                  clear HRW6 H03 HN3
                  obtain ⟨k, nx, ah, hk, rfl, rfl, hnx, HRW, H0, HNR⟩ := hrel
                  by_cases hkl : k < l.length
                  · obtain ⟨eb, eo, f, t, kk, rfl, heb, he, he1, he2, he3⟩ := HC.out.at_ (HRW.out.below.mono (Nat.le_of_eq HG0.out)) hkl
                    have heg : eg l k = ⟨f, t, kk⟩ := by simp [eg, List.getD, he.out]
                    have hmem := HOK.out _ (List.mem_of_getElem? he.out)
                    simp only at hmem
                    obtain ⟨f, rfl⟩ := Int.eq_ofNat_of_zero_le hmem.1.1
                    obtain ⟨t, rfl⟩ := Int.eq_ofNat_of_zero_le hmem.2.1
                    have htN : t < N := by have := hmem.2.2; omega
                    have hal := H0.out.len
                    have i3 : (0 : Int) ≤ (k : Int) := by omega
                    have i4 : (k : Int) < (l.length : Int) := by omega
                    have i5 : (0 : Int) ≤ (t : Int) := by omega
                    have i6 : (t : Int) < (N : Int) := by omega
                    by_cases hfx : f = x
                    · subst hfx
                      obtain ⟨hd1, hd2⟩ := DK.hit HXS.out (show (eg l k).f = (f : Int) by rw [heg])
                      obtain ⟨hoi2, hge, htn⟩ := H0.out.del hkl hd1 (show (eg l k).t = (t : Int) by rw [heg]) htN
                      have hv2 := hoi2.val t htN
                      rw [nth_def, List.getElem?_set_self (by rw [hal]; exact htN), Option.getD_some] at hv2
                      have hcell : wr.cell? ⟨g0, t, none⟩ = some (.int .i64 (nth ah t)) := by
                        rw [HRW.out.ahead.cellAt t (by omega)]
                        simp [ints, nth_some (show t < ah.length by omega)]
                      have hfr := HRW.out.ahead.frozenAt t
                      have hset := HRW.out.setA t (nth ah t - 1)
                      have hbd := H0.out.bound t htN
                      obtain ⟨z, hz⟩ : ∃ z, nth ah t = z := ⟨_, rfl⟩
                      rw [hz] at hcell hset hge hbd hv2 hoi2
                      have hoi3 := hoi2.congr fun j hj => (hd2 j hj).symm
                      by_cases hz0 : z - 1 = 0
                      · have hnr3 : ∀ b, b ≤ nx → b ≤ t → NoR N l (DK l xs f (k + 1)) ys b := fun b hb hbt => (HNR.out.del (show (eg l k).t = (t : Int) by rw [heg]) hb (fun _ => hbt)).congr fun j hj => (hd2 j hj).symm
                        rw [hz0] at hset hoi3
                        have HSET := Lib.hid hset
                        have HOI3 := Lib.hid hoi3
                        have HNR3 := Lib.hid hnr3
                        have hz1 : z = 1 := by omega
                        subst hz1
                        clear hset hoi3 hoi2 hnr3 hv2 hz hd1 hd2 heg hmem he htn H0 HRW HNR
                        go_wp2
                        go_roundw
                        case rel =>
                          by_cases htx : t < nx
                          · exact ⟨k + 1, t, _, hkl, by go_num, by rw [if_pos htx], by omega, HSET, HOI3, Lib.hid (HNR3.out t (by omega) (Nat.le_refl _))⟩
                          · exact ⟨k + 1, nx, _, hkl, by go_num, by rw [if_neg htx], hnx, HSET, HOI3, Lib.hid (HNR3.out nx (Nat.le_refl _) (by omega))⟩
                        case measure => simp [intOf]; omega
                      · have hnr3 := (HNR.out.del (show (eg l k).t = (t : Int) by rw [heg]) (Nat.le_refl nx) (fun h => by omega)).congr fun j hj => (hd2 j hj).symm
                        have HSET := Lib.hid hset
                        have HOI3 := Lib.hid hoi3
                        have HNR3 := Lib.hid hnr3
                        clear hset hoi3 hoi2 hnr3 hv2 hz hd1 hd2 heg hmem he htn H0 HRW HNR
                        go_wp2
                        go_roundw
                        case rel => exact ⟨k + 1, nx, _, hkl, by go_num, rfl, hnx, HSET, HOI3, HNR3⟩
                        case measure => simp [intOf]; omega
                    · have hne : ¬ (f : Int) = (x : Int) := by omega
                      have hms := DK.miss (xs := xs) (show (eg l k).f ≠ (x : Int) by rw [heg]; exact hne)
                      have HOI3 := Lib.hid (H0.out.congr hms)
                      have HNR3 := Lib.hid (HNR.out.congr hms)
                      clear hms heg hmem he H0 HNR
                      go_wp2
                      go_roundw
                      case rel => exact ⟨k + 1, nx, ah, hkl, by go_num, rfl, hnx, HRW, HOI3, HNR3⟩
                      case measure => simp [intOf]; omega
                  · have hkl2 : k = l.length := by omega
                    subst hkl2
                    have H04 := Lib.hid (H0.out.congr (DK.fin l xs x))
                    have HN4 := Lib.hid (HNR.out.congr (DK.fin l xs x))
                    rw [HYS.out] at H04 HN4
                    have hlex := Nat.lex_lt (N := N) (a := N - ys.length) (i := N - nx) (b := N - xs.length) (j := N - x) (by have := HYL.out; omega) (by omega)
                    go_wp2
                    go_roundg ((N - ys.length) * (N + 1) + (N - nx))
                    case measure => omega
                    case rel => exact ⟨ys, ah, _, _, nx, rfl, rfl, by omega, HRW, HG3, H04, HN4, Nat.le_refl _⟩
          · have hiN2 : i = N := by omega
            subst hiN2
            have hfull : Full i l xs := ⟨HG.out, fun v hv => by
              obtain ⟨u, rfl⟩ := Int.eq_ofNat_of_zero_le hv.1
              have h1 := hv.2.1
              exact HNR.out u (by omega) (by omega) hv.2.2.1 hv.2.2.2⟩
            have HF := Lib.hid hfull
            have hwg := HG0.out
            have hbel := HRW.out.below
            have how := HRW.out.order
            rw [← hwg] at hbel
            have HBL := Lib.hid hbel
            have HOW := Lib.hid how
            clear hfull hbel how
            go_wp2
            · have hlx : xs.length < i := by omega
              go_ret2
              exact ⟨none, 0, [], 270, rfl, .inr ⟨HR.out, xs, HF.out, .inl ⟨hlx, rfl, rfl⟩⟩, OwnI.nil _ _, HBL.out⟩
            · have hlx : i ≤ xs.length := by omega
              go_ret2
              exact ⟨_, _, xs, 0, rfl, .inr ⟨HR.out, xs, HF.out, .inr ⟨hlx, rfl, rfl⟩⟩, HOW.out.base (by omega), HBL.out⟩
  · have hR2 : rightB n l = false := by simpa using hR
    have hri := refRight_any n A cap l w (by omega) hc
    rw [hR2] at hri
    clear hR
    go_enter Try.func41, Try.ntmps41
    go_wp2_with (go_at_call 70; refine hri.mono ?_; rintro e w1 ⟨rfl, rfl⟩)
    go_ret2
    exact ⟨none, 0, [], 2, rfl, .inl ⟨hR2, rfl, rfl⟩, OwnI.nil _ _, Below.refl _ _⟩
end Go.Proofs.Ytjifpjfinffamaa
