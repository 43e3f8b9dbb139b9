/- Walk: graph.Needed. -/
import Derived.Test.YtjifpjfinffamaaN0
import Derived.Test.YtjifpjfinffamaaSh
import Derived.BigQuiet
import Derived.Deep.QuietTactic
import Derived.Shelf.RegionOpen
import Derived.Test.YtjifpjfinffamaaL5
import Derived.Deep.OwnRows
namespace Go.Proofs.Ytjifpjfinffamaa
open Go.RowKit Go.Shelf

attribute [local go_sem] Oper.semAt_some

theorem five (w : World) (o1 o2 o3 o4 o5 : Obj) : ∃ w', w' = ((((w.alloc o1).alloc o2).alloc o3).alloc o4).alloc o5 ∧ w'.heap.size = w.heap.size + 5 ∧ w'.heap[w.heap.size]? = some o1 ∧ w'.heap[w.heap.size + 1]? = some o2 ∧ w'.heap[w.heap.size + 2]? = some o3 ∧
    w'.heap[w.heap.size + 3]? = some o4 ∧ w'.heap[w.heap.size + 4]? = some o5 ∧ Below w.heap.size w w' := by
  have s1 : (w.alloc o1).heap.size = w.heap.size + 1 := by simp
  have s2 : ((w.alloc o1).alloc o2).heap.size = w.heap.size + 2 := by simp
  have s3 : (((w.alloc o1).alloc o2).alloc o3).heap.size = w.heap.size + 3 := by simp
  have s4 : ((((w.alloc o1).alloc o2).alloc o3).alloc o4).heap.size = w.heap.size + 4 := by simp
  have k5 : ∀ k, k < w.heap.size + 4 → (((((w.alloc o1).alloc o2).alloc o3).alloc o4).alloc o5).heap[k]? = ((((w.alloc o1).alloc o2).alloc o3).alloc o4).heap[k]? := fun k hk => Go.heap_alloc_old _ _ k (by omega)
  have k4 : ∀ k, k < w.heap.size + 3 → ((((w.alloc o1).alloc o2).alloc o3).alloc o4).heap[k]? = (((w.alloc o1).alloc o2).alloc o3).heap[k]? := fun k hk => Go.heap_alloc_old _ _ k (by omega)
  have k3 : ∀ k, k < w.heap.size + 2 → (((w.alloc o1).alloc o2).alloc o3).heap[k]? = ((w.alloc o1).alloc o2).heap[k]? := fun k hk => Go.heap_alloc_old _ _ k (by omega)
  have k2 : ∀ k, k < w.heap.size + 1 → ((w.alloc o1).alloc o2).heap[k]? = (w.alloc o1).heap[k]? := fun k hk => Go.heap_alloc_old _ _ k (by omega)
  refine ⟨_, rfl, by simp, ?_, ?_, ?_, ?_, ?_, ?_⟩
  · rw [k5 _ (by omega), k4 _ (by omega), k3 _ (by omega), k2 _ (by omega)]; exact heap_at _ _ _ rfl
  · rw [k5 _ (by omega), k4 _ (by omega), k3 _ (by omega)]; exact heap_at _ _ _ s1
  · rw [k5 _ (by omega), k4 _ (by omega)]; exact heap_at _ _ _ s2
  · rw [k5 _ (by omega)]; exact heap_at _ _ _ s3
  · exact heap_at _ _ _ s4
  · exact (((((Below.refl _ w).alloc (Nat.le_refl _) _).alloc (by omega) _).alloc (by omega) _).alloc (by omega) _).alloc (by omega) _

/-- what graph.Needed answers -/
def NeedW (n : Int) (l : List E) (xs : List Int) (er : Int) : Prop :=
  (er ≠ 0 ∧ OrderS n l [] er ∧ xs = []) ∨ (er = 0 ∧ ∃ order, OrderS n l order 0 ∧ xs = srt ((order.reverse.map Int.toNat).foldl (stp l) st0).nd)
def NeededEnds (n : Int) (l : List E) (w : World) (e : Ending) (w' : World) : Prop :=
  ∃ A c xs er, e = .returned (.tuple #[.slice A xs.length c, .int .i64 er]) ∧ NeedW n l xs er ∧ OwnI w' w.heap.size A c xs ∧ Below w.heap.size w w'
theorem fold_back {N : Nat} {l : List E} {xs : List Int} {el : Nat → ND N} (hel : ∀ k, k < xs.length → (el k).1.1 = xs.length - 1 - k ∧ ((el k).1.2 : Int) = nth xs (xs.length - 1 - k)) :
    ((List.range xs.length).map el).foldl (fun s x => stp l s x.1.2) st0 = (xs.reverse.map Int.toNat).foldl (stp l) st0 := by
  have h : ((List.range xs.length).map el).map (fun x => x.1.2) = xs.reverse.map Int.toNat := by
    apply List.ext_getElem
    · simp
    · intro k h1 h2
      have hk : k < xs.length := by simpa using h1
      simp only [List.getElem_map, List.getElem_range, List.getElem_reverse]
      have h3 := (hel k hk).2
      rw [nth_get (by omega)] at h3
      omega
  rw [← h]
  simp only [List.foldl_map]

set_option linter.unusedSimpArgs false in
set_option maxRecDepth 100000 in
set_option maxHeartbeats 3200000 in
theorem needed_any (n : Int) (A : Option Addr) (cap : Nat) (l : List E) (w : World) (hl : l.length * 24 ≤ 140737488351232) (hc : RE w w.heap.size A l) :
    Calls Try.prog 36 #[.int .i64 n, .slice A l.length cap] w (NeededEnds n l w) := by
  refine (callsIn_wide (n := 5)).1 ?_
  refine callsIn_of_wp_marks Try.func36 rfl trivial ?_ rfl
  simp only [Try.ntmps36, List.size_toArray, List.length_cons, List.length_nil, Nat.reduceAdd, Nat.reduceSub, Array.replicate_succ, Array.replicate_zero, List.push_toArray, List.append_toArray, List.nil_append, List.cons_append]
  have hmm := @run_makeMap Try.prog
  obtain ⟨wb, hwb⟩ : ∃ wb, wb = (w.alloc (.cells #[.int .i64 n] 3)).alloc (.cells #[.slice A l.length cap] 48) := ⟨_, rfl⟩
  obtain ⟨b2, hb2⟩ : ∃ b2, b2 = w.heap.size := ⟨_, rfl⟩
  obtain ⟨b3, hb3⟩ : ∃ b3, b3 = w.heap.size + 1 := ⟨_, rfl⟩
  have hbwb : Below w.heap.size w wb := by rw [hwb]; exact ((Below.refl _ w).alloc (Nat.le_refl _) _).alloc (by simp) _
  have hwbs : wb.heap.size = w.heap.size + 2 := by rw [hwb]; simp
  have c2 : wb.cell? ⟨b2, 0, none⟩ = some (.int .i64 n) := by
    rw [cell_of_row wb b2 0 #[.int .i64 n] 3 (0, 0) ?_]; · rfl
    rw [hwb]; exact (heap_alloc_old (w.alloc (.cells #[.int .i64 n] 3)) _ b2 (by rw [hb2]; simp)).trans (heap_at _ _ _ hb2.symm)
  have c3 : wb.cell? ⟨b3, 0, none⟩ = some (.slice A l.length cap) := by
    rw [cell_of_row wb b3 0 #[.slice A l.length cap] 48 (0, 0) ?_]; · rfl
    rw [hwb]; exact heap_at _ _ _ (by rw [hb3]; simp)
  have hcb : RE wb wb.heap.size A l := (hc.below hbwb).more hbwb.size
  have hord := order_any n A cap l wb hl hcb
  have HORD := Lib.hid hord
  have HC := Lib.hid hcb
  have HBW := Lib.hid hbwb
  have C2 := Lib.hid c2
  have C3 := Lib.hid c3
  clear hord hcb hbwb hc c2 c3
  have c2 := C2.out
  have c3 := C3.out
  gi_wp2
  rw [← hwb, ← hb3, ← hb2]
  have HH2 := Lib.hid hb2
  have HH3 := Lib.hid hb3
  have HHS := Lib.hid hwbs
  have hb2w : b2 < wb.heap.size := by omega
  have hb3w : b3 < wb.heap.size := by omega
  clear hwb hb2 hb3 hwbs
  refine ⟨trivial, callsIn_wide.2 (HORD.out.mono ?_)⟩
  rintro e w1 ⟨Ao, co, xs, er, rfl, hS, hown, hb1⟩
  have d2 := (hb1.cell (p := ⟨b2, 0, none⟩) hb2w).trans C2.out
  have d3 := (hb1.cell (p := ⟨b3, 0, none⟩) hb3w).trans C3.out
  have hc1 := (HC.out.below hb1).more hb1.size
  have HC1 := Lib.hid hc1
  have HOW := Lib.hid hown
  have HB1 := Lib.hid hb1
  have HS := Lib.hid hS
  clear c2 c3 C2 C3 hc1 hown hb1 hS HORD
  by_cases her : er = 0
  · subst her
    obtain ⟨hR, hF, hNx⟩ : rightB n l = true ∧ Full n.toNat l xs ∧ n.toNat ≤ xs.length := by
      rcases HS.out with ⟨_, _, h⟩ | ⟨h1, o, h2, ⟨_, _, h3⟩ | ⟨h3, h4, _⟩⟩
      · omega
      · omega
      · exact ⟨h1, h4 ▸ h2, h4 ▸ h3⟩
    obtain ⟨N, rfl, hN, ok⟩ := right_ok hR
    simp only [Int.toNat_natCast] at hF hNx
    have hxN : xs.length = N := by have := hF.1.le; omega
    have HF := Lib.hid hF
    have HOK := Lib.hid ok
    have HR := Lib.hid hR
    clear hF ok hR hNx HS
    have hout := out_any N A cap l w1 hN HOK.out hl HC1.out
    have HOUT := Lib.hid hout
    clear hout
    gi_wp2
    refine ⟨trivial, callsIn_wide.2 (HOUT.out.mono ?_)⟩
    rintro e w2 ⟨A3, c3, rfl, hr2, hb2⟩
    obtain ⟨w3, hw3, hs3, k0, k1, k2, k3, k4, hb3⟩ := five w2 (.cells #[.slice A3 N c3] 107) (.map #[] 0) (.cells #[.map (some (w2.heap.size + 1))] 113) (.cells #[.slice none 0 0] 31) (.cells #[.slice Ao N co] 31)
    have HB2 := Lib.hid hb2
    have HB3 := Lib.hid hb3
    clear hb2 hb3
    gi_wp2
    refine ⟨trivial, callsIn_wide.2 ((backward_any _ _ _ _).mono ?_)⟩
    rintro e w' ⟨rfl, rfl⟩
    gi_wp2
    rw [← hw3]
    clear hw3
    obtain ⟨Bs, e4⟩ : ∃ Bs, w2.heap.size + 1 + 1 + 1 + 1 = Bs := ⟨_, rfl⟩
    obtain ⟨b10, e3⟩ : ∃ b10, w2.heap.size + 1 + 1 + 1 = b10 := ⟨_, rfl⟩
    obtain ⟨b9, e2⟩ : ∃ b9, w2.heap.size + 1 + 1 = b9 := ⟨_, rfl⟩
    obtain ⟨mb, e1⟩ : ∃ mb, w2.heap.size + 1 = mb := ⟨_, rfl⟩
    obtain ⟨b8, e0⟩ : ∃ b8, w2.heap.size = b8 := ⟨_, rfl⟩
    try rw [e4]
    try rw [e3]
    try rw [e2]
    try rw [e1]
    try rw [e0]
    have hn₁ : w3.heap.size = b8 + 5 := by omega
    obtain ⟨n₁, hn1⟩ : ∃ n₁, n₁ = w3.heap.size := ⟨_, rfl⟩
    have hb8 : w2.heap.size = b8 := e0
    have hmb : mb = b8 + 1 := by omega
    have hb9 : b9 = b8 + 2 := by omega
    have hb10 : b10 = b8 + 3 := by omega
    have hBs : Bs = b8 + 4 := by omega
    have z8 : w3.heap[b8]? = some (.cells #[.slice A3 N c3] 107 (0, 0)) := by rw [← hb8]; exact k0
    have z9 : w3.heap[b9]? = some (.cells #[.map (some mb)] 113 (0, 0)) := by rw [hb9, ← hb8, ← e1]; exact k2
    have zm : w3.heap[mb]? = some (.map #[] 0) := by rw [hmb, ← hb8]; exact k1
    have z10 : w3.heap[b10]? = some (.cells #[.slice none 0 0] 31 (0, 0)) := by rw [hb10, ← hb8]; exact k3
    have zs : w3.heap[Bs]? = some (.cells #[.slice Ao N co] 31 (0, 0)) := by rw [hBs, ← hb8]; exact k4
    have HB12 : Hid (Below w1.heap.size w1 w3) := Lib.hid (HB2.out.trans (HB3.out.mono HB2.out.size))
    have z2 : w3.cell? ⟨b2, 0, none⟩ = some (.int .i64 (N : Int)) := (HB12.out.cell (p := ⟨b2, 0, none⟩) (Nat.lt_of_lt_of_le hb2w HB1.out.size)).trans d2
    have z3 : w3.cell? ⟨b3, 0, none⟩ = some (.slice A l.length cap) := (HB12.out.cell (p := ⟨b3, 0, none⟩) (Nat.lt_of_lt_of_le hb3w HB1.out.size)).trans d3
    have hs12 : w1.heap.size ≤ b8 := by rw [← hb8]; exact HB2.out.size
    have hs01 : wb.heap.size ≤ w1.heap.size := HB1.out.size
    have hb2b : b2 < b8 := by omega
    have hb3b : b3 < b8 := by omega
    have hr3 : RR w3 b8 A3 (outRows l N) := by rw [← hb8]; exact hr2.below HB3.out
    have hc3 : RE w3 b8 A l := (HC1.out.below HB12.out).more hs12
    have hnd := HF.out.1.nodup
    have hel0 : ∀ j, j < xs.length → 0 ≤ nth xs j ∧ nth xs j < N := fun j hj => hnd.2 _ (by rw [nth_get hj]; exact List.getElem_mem hj)
    obtain ⟨ob, hob⟩ : ∃ ob, 0 < xs.length → Ao = some ⟨ob, 0, none⟩ ∧ (ob < n₁ ∧ ob ≠ b10 ∧ ob ≠ mb) ∧ ∀ j, j < xs.length → w3.cell? ⟨ob, j, none⟩ = some (.int .i64 (nth xs j)) := by
      by_cases h0 : 0 < xs.length
      · have how := HOW.out
        unfold OwnI at how
        obtain ⟨g, c', hv, hbg, hg⟩ := how.form h0
        injection hv with hv1 _ hv3
        subst hv1 hv3
        refine ⟨g, fun _ => ⟨rfl, ⟨by omega, by omega, by omega⟩, fun j hj => ?_⟩⟩
        rw [HB12.out.cell (p := ⟨g, j, none⟩) hg, how.cellAt j (by omega)]
        simp [ints, nth_some hj]
      · exact ⟨0, fun h => absurd h h0⟩
    have hel : ∃ el : Nat → ND N, ∀ k, k < xs.length → (el k).1.1 = xs.length - 1 - k ∧ ((el k).1.2 : Int) = nth xs (xs.length - 1 - k) := by
      refine ⟨fun k => ⟨(xs.length - 1 - k, (nth xs (xs.length - 1 - k)).toNat), by omega, ?_⟩, fun k hk => ⟨rfl, ?_⟩⟩
      · by_cases hN0 : N = 0
        · exact .inr hN0
        · have := hel0 (xs.length - 1 - k) (by omega)
          exact .inl (by omega)
      · have := hel0 (xs.length - 1 - k) (by omega)
        show ((nth xs (xs.length - 1 - k)).toNat : Int) = _
        omega
    obtain ⟨el, hel⟩ := hel
    have zsc : w3.cell? ⟨Bs, 0, none⟩ = some (.slice Ao N co) := by rw [cell_of_row w3 Bs 0 _ 31 (0, 0) zs]; rfl
    have hseq := back_stops (N := N) 4 (by omega) Bs n₁ b10 mb ob co xs (by omega) el hel w3 (by omega) Ao (by rw [hxN]; exact zsc) ⟨by omega, by omega, by omega⟩ hob
    have HSEQ := Lib.hid hseq
    have q1 : b8 < mb := by omega
    have q2 : mb < b9 := by omega
    have q3 : b9 < b10 := by omega
    have q4 : b10 < Bs := by omega
    have q5 : Bs < n₁ := by omega
    have q6 : n₁ ≤ b10 + 2 := by omega
    have q7 : b10 + 2 ≤ n₁ := by omega
    have q8 : w3.heap.size ≤ n₁ := by omega
    have q9 : n₁ ≤ w3.heap.size := by omega
    have q10 : w2.heap.size ≤ b8 := by omega
    have HEL := Lib.hid hel
    clear hn₁ hn1 hmb hb9 hb10 hBs hb8 hel hob hseq zs zsc hel0 hnd k0 k1 k2 k3 k4 e0 e1 e2 e3 e4 hr2 d2 d3 hs3
    refine wpIn_rangeFunc_ownG rfl (by omega) (gf := 101) (lb := #[.pointer (some ⟨Bs, 0, none⟩)]) rfl trivial (enters_of Try.func101 (by kernel_rfl) rfl)
      HSEQ.out (fun h k => h.trans k) (fun W l o o' hl ho _ _ => ?kb) (Below.refl _ _) (fun _ => rfl)
      (fun pre W => MemI N n₁ b10 mb w3 (pre.foldl (fun s x => stp l s x.1.2) st0) pre.length W)
      (fun _ _ _ => False)
      (fun s W W' row hi hg hr => ?own)
      (fun _ _ _ _ _ hs _ _ => hs)
      ?start
      (fun x => { tmps := #[.int .i64 (N : Int), .slice A l.length cap, .pointer (some ⟨b2, 0, none⟩), .pointer (some ⟨b3, 0, none⟩), .slice none 0 0, .int .i64 0, .slice Ao N co, .int .i64 0, .pointer (some ⟨b8, 0, none⟩), .pointer (some ⟨b9, 0, none⟩), .pointer (some ⟨b10, 0, none⟩), undef, .int .i64 (x.1.2 : Int), undef, undef, undef, undef, undef, undef, undef, undef, undef, .tuple #[.slice Ao N co, .int .i64 0], .int .i64 (N : Int), .slice A l.length cap, .tuple #[.slice Ao N co, .int .i64 0], .slice Ao N co, .int .i64 0, .int .i64 0, .bool false, undef, .int .i64 (N : Int), .slice A l.length cap, .slice A3 N c3, .map (some mb), .slice Ao N co, .func (.func 101) #[] #[.pointer (some ⟨Bs, 0, none⟩)], .int .i64 (x.1.1 : Int), .int .i64 (x.1.2 : Int), undef, undef, undef, undef, undef, undef, undef, undef, undef, undef, undef, undef, undef, undef, undef, undef, undef, undef, undef, undef, undef, undef, undef, undef, undef, undef, undef, undef, undef, undef, undef, undef, undef, undef, undef, undef, undef, undef, undef, undef, undef, undef, undef, undef, undef, undef, undef, undef, undef, undef, undef, undef, undef, undef, undef, undef, undef, undef, undef, undef, undef, undef, undef, undef, undef, undef, undef, undef, undef, undef, undef, undef, undef, undef, undef, undef, undef], defers := [] }) ?assign ?body ?done ?stop
    case kb => exact fun k hk _ _ => World.putObj_heap_other (by omega)
    case own =>
      have hne : ∀ k, k < n₁ → some k ≠ row := fun k hk e => by have := (hr k e.symm).1; omega
      have hnc : ∀ g cs t, W.heap[g]? = some (Obj.cells cs t (0, 0)) → W'.heap[g]? = W.heap[g]? := fun g cs t hg' => hg.block g (Array.getElem?_eq_some_iff.1 hg').1 (fun e => by
        obtain ⟨_, o, ho, hoc⟩ := hr g e.symm
        have h3 : o = Obj.cells cs t (0, 0) := (Option.some.inj (hg'.symm.trans ho)).symm
        rw [h3] at hoc
        simp [Obj.isCells] at hoc)
      have hlt : ∀ k, k < n₁ → W'.heap[k]? = W.heap[k]? := fun k hk => hg.block k (Nat.lt_of_lt_of_le hk hi.size) (hne k hk)
      obtain ⟨v, hv⟩ := hi.need
      exact ⟨fun k hk h1 h2 => (hlt k hk).trans (hi.kq k hk h1 h2), hg.os.trans hi.os, hg.tape.trans hi.tape, hg.output.trans hi.output, Nat.le_trans hi.size hg.size,
        hi.map.kept (hlt mb (by omega)) (fun g cs _ hg' => hnc g cs 40 hg'), ⟨v, hv.kept (hlt b10 (by omega)) (fun g cs _ hg' => hnc g cs 3 hg')⟩, hi.len⟩
    case start =>
      refine ⟨fun _ _ _ _ => rfl, rfl, rfl, rfl, by omega, ⟨.map [], ?_, ⟨[], rfl⟩, fun y _ => ⟨fun _ => rfl, fun f hf => by simp [st0] at hf⟩⟩, ⟨.slice none 0 0, z10, World.ownsRow_nil _ _ _ _⟩, by simp [st0]⟩
      exact ⟨#[], 0, zm, ⟨by simp, MapKept.stamped_empty 0, by simp⟩, Nat.zero_le _, rfl⟩
    case assign =>
      intro l x W K hK
      simp only [ndEnc]
      gi_wp2
      exact hK
    case body =>
      rintro l0 pre x W hI hlt
      have hx2 := x.2.2
      obtain ⟨xi, hxi⟩ : ∃ xi, x.1.1 = xi := ⟨_, rfl⟩
      obtain ⟨xv, hxv0⟩ : ∃ xv, x.1.2 = xv := ⟨_, rfl⟩
      rw [hxv0] at hx2
      have hxv : xv < N := by rcases hx2 with h | h <;> omega
      have hml : pre.length < 65536 := by omega
      have hkk : ∀ k, k < n₁ → k ≠ b10 → k ≠ mb → W.heap[k]? = w3.heap[k]? := hI.kq
      have y2 : W.cell? ⟨b2, 0, none⟩ = some (.int .i64 (N : Int)) := (World.cell?_of_block (hkk b2 (by omega) (by omega) (by omega))).trans z2
      have y3 : W.cell? ⟨b3, 0, none⟩ = some (.slice A l.length cap) := (World.cell?_of_block (hkk b3 (by omega) (by omega) (by omega))).trans z3
      have y8 : W.cell? ⟨b8, 0, none⟩ = some (.slice A3 N c3) := by rw [cell_of_row W b8 0 _ 107 (0, 0) ((hkk b8 (by omega) (by omega) (by omega)).trans z8)]; rfl
      have y9 : W.cell? ⟨b9, 0, none⟩ = some (.map (some mb)) := by rw [cell_of_row W b9 0 _ 113 (0, 0) ((hkk b9 (by omega) (by omega) (by omega)).trans z9)]; rfl
      have hrW : RR W b8 A3 (outRows l N) := hr3.keep fun p hp => World.cell?_of_block (hkk p.block (by omega) (by omega) (by omega))
      have hcW : RE W b8 A l := hc3.keep fun p hp => World.cell?_of_block (hkk p.block (by omega) (by omega) (by omega))
      obtain ⟨rb, ro, Ar, cr, rfl, hrb, hcr, hrk⟩ := RR_at hrW (Below.refl b8 W) (k := xv) (by simp [outRows]; omega)
      have hrow : (outRows l N)[xv]'(by simp [outRows]; omega) = outRow l xv l.length := by simp [outRows]
      rw [hrow] at hcr hrk
      have hcnt := outRow_len l xv l.length
      obtain ⟨s, hs⟩ : ∃ s, pre.foldl (fun s x => stp l s x.1.2) st0 = s := ⟨_, rfl⟩
      rw [hs] at hI
      have hfold : (pre ++ [x]).foldl (fun s x => stp l s x.1.2) st0 = stp l s xv := by rw [List.foldl_append, hs]; simp [hxv0]
      simp only [hxv0, hxi]
      have HFO := Lib.hid hfold
      have HRK := Lib.hid hrk
      have HCW := Lib.hid hcW
      have HKK := Lib.hid hkk
      have i1 : (0 : Int) ≤ (xv : Int) := by omega
      have i2 : (xv : Int) < (N : Int) := by omega
      clear hxi hxv0 hfold hs hrow hrk hcW hrW hkk z2 z3 z8 z9 zm z10 hr3 hc3 hx2
      by_cases h0 : (outRow l xv l.length).length = 0
      · have hst : stp l s xv = s := by simp [stp, h0]
        have HI := Lib.hid hI
        rw [h0] at hcr
        have HST := Lib.hid hst
        clear hst hI hcnt
        gi_wp2
        refine ⟨KeepsFrom.refl _ _, fun _ _ _ _ => rfl, ?_⟩
        show MemI N n₁ b10 mb w3 ((pre ++ [x]).foldl (fun s x => stp l s x.1.2) st0) (pre ++ [x]).length W
        rw [HFO.out, HST.out, List.length_append]
        exact HI.out.succ
      · have HI := Lib.hid hI
        clear hI
        obtain ⟨Q, hQ⟩ : ∃ Q, Q = N / 64 := ⟨_, rfl⟩
        obtain ⟨M, hM⟩ : ∃ M, M = Q + 1 := ⟨_, rfl⟩
        have e1 : (N : Int) / 64 = (Q : Int) := by omega
        have e2 : (Q : Int) + 1 = (M : Int) := by omega
        have hMN : M = N / 64 + 1 := by omega
        have hM1 : M ≤ 1025 := by omega
        have hmk := Go.run_make_row' (P := Try.prog) 117 40 (.int .u64 0) 8 Try.underlying117 info40 rfl .i64 .i64 M (by omega) (by omega)
        have HMN := Lib.hid hMN
        have hWs := HI.out.size
        have nb1 : ¬ b2 = W.heap.size := by omega
        have nb2 : ¬ W.heap.size = b2 := by omega
        have nb3 : b2 < W.heap.size := by omega
        have ew1 : IntKind.i64.wrap (Q : Int) = (Q : Int) := IntWalk.i64_in _ (by omega)
        have ew2 : IntKind.i64.wrap (M : Int) = (M : Int) := IntWalk.i64_in _ (by omega)
        have yA : ∀ o, (W.alloc o).cell? ⟨b2, 0, none⟩ = some (.int .i64 (N : Int)) := fun o => (World.cell?_alloc_lt W o ⟨b2, 0, none⟩ nb3).trans y2
        have yB : ∀ o o', ((W.alloc o).alloc o').cell? ⟨b2, 0, none⟩ = some (.int .i64 (N : Int)) := fun o o' => (World.cell?_alloc_lt (W.alloc o) o' ⟨b2, 0, none⟩ (by simp; omega)).trans (yA o)
        have YA := Lib.hid yA
        have YB := Lib.hid yB
        clear yA yB
        obtain ⟨v0, hns⟩ := HI.out.need
        have HNS := Lib.hid hns
        clear hns
        have hmx : Try.prog.follows Departure.mixedOrders = true := by rfl
        clear hQ hM hMN
        gi_wp2
        refine region_in_round l0 _ hmx (by kernel_rfl) (by rintro ⟨a, w, h⟩; exact h) (S := fun W' => W'.cell? ⟨b2, 0, none⟩ = some (.int .i64 (N : Int))) y2 (fun hHeld => ?_)
        refine wpAnyH_take (i := 0) (oi := _) (v := ?va0) rfl (by kernel_rfl) (by kernel_rfl) (by kernel_rfl) (fun _ _ _ h => h) (Or.inl ⟨by rfl, ?hya0⟩) (by assumption) ?resta0
        case hya0 => ((intro w hSw; (try dsimp only at hSw); go_simp); (try with_reducible rfl))
        (try simp only [Act.put, Array.getInternal_eq_getElem, List.getElem_toArray, List.getElem_cons_zero, List.getElem_cons_succ, List.setIfInBounds_toArray, List.set_cons_zero, List.set_cons_succ])
        refine wpAnyH_take (i := 1) (oi := _) (v := ?va1) rfl (by kernel_rfl) (by kernel_rfl) (by kernel_rfl) (fun _ _ _ h => h) (Or.inl ⟨by rfl, ?hya1⟩) (by assumption) ?resta1
        case hya1 => ((intro w hSw; (try dsimp only at hSw); go_simp); (try with_reducible rfl))
        (try simp only [Act.put, Array.getInternal_eq_getElem, List.getElem_toArray, List.getElem_cons_zero, List.getElem_cons_succ, List.setIfInBounds_toArray, List.set_cons_zero, List.set_cons_succ])
        refine wpAnyH_take (i := 2) (oi := _) (v := ?va2) rfl (by kernel_rfl) (by kernel_rfl) (by kernel_rfl) (fun _ _ _ h => h) (Or.inl ⟨by rfl, ?hya2⟩) (by assumption) ?resta2
        case hya2 => ((intro w hSw; (try dsimp only at hSw); go_simp); (try with_reducible rfl))
        (try simp only [Act.put, Array.getInternal_eq_getElem, List.getElem_toArray, List.getElem_cons_zero, List.getElem_cons_succ, List.setIfInBounds_toArray, List.set_cons_zero, List.set_cons_succ])
        refine wpAnyH_take (i := 4) (oi := _) (v := ?va4) rfl (by kernel_rfl) (by kernel_rfl) (by kernel_rfl) (fun _ _ _ h => h) (Or.inl ⟨by rfl, ?hya4⟩) (by assumption) ?resta4
        case hya4 => ((intro w hSw; (try dsimp only at hSw); go_simp); (try with_reducible rfl))
        (try simp only [Act.put, Array.getInternal_eq_getElem, List.getElem_toArray, List.getElem_cons_zero, List.getElem_cons_succ, List.setIfInBounds_toArray, List.set_cons_zero, List.set_cons_succ])
        refine wpAnyH_take (i := 5) (oi := _) (v := ?va5) rfl (by kernel_rfl) (by kernel_rfl) (by kernel_rfl) (fun _ _ _ h => h) (Or.inl ⟨by rfl, ?hya5⟩) (by assumption) ?resta5
        case hya5 => ((intro w hSw; (try dsimp only at hSw); go_simp); (try with_reducible rfl))
        (try simp only [Act.put, Array.getInternal_eq_getElem, List.getElem_toArray, List.getElem_cons_zero, List.getElem_cons_succ, List.setIfInBounds_toArray, List.set_cons_zero, List.set_cons_succ])
        refine wpAnyH_take (i := 6) (oi := _) (v := ?va6) rfl (by kernel_rfl) (by kernel_rfl) (by kernel_rfl) (fun _ _ _ h => h) (Or.inl ⟨by rfl, ?hya6⟩) (by assumption) ?resta6
        case hya6 => ((intro w hSw; (try dsimp only at hSw); go_simp); (try with_reducible rfl))
        (try simp only [Act.put, Array.getInternal_eq_getElem, List.getElem_toArray, List.getElem_cons_zero, List.getElem_cons_succ, List.setIfInBounds_toArray, List.set_cons_zero, List.set_cons_succ])
        refine wpAnyH_ready (rs := [3, 7]) (by kernel_rfl) (by simp) ?_
        refine AllReadyH.cons (o := _) rfl (fun K hK => ?_) (AllReadyH.cons (o := _) rfl (fun K hK => ?_) AllReadyH.nil)
        go_simp
        refine hK.out _ _ (YA.out _) (fun hHeld2 => ?_)
        clear hK K
        (try simp only [Act.put, Array.getInternal_eq_getElem, List.getElem_toArray, List.getElem_cons_zero, List.getElem_cons_succ, List.setIfInBounds_toArray, List.set_cons_zero, List.set_cons_succ])
        refine wpAnyH_take (i := 8) (oi := _) (v := ?vb8) rfl (by kernel_rfl) (by kernel_rfl) (by kernel_rfl) (fun _ _ _ h => h) (Or.inl ⟨by rfl, ?hyb8⟩) (by assumption) ?restb8
        case hyb8 => ((intro w hSw; (try dsimp only at hSw); go_simp); (try with_reducible rfl))
        (try simp only [Act.put, Array.getInternal_eq_getElem, List.getElem_toArray, List.getElem_cons_zero, List.getElem_cons_succ, List.setIfInBounds_toArray, List.set_cons_zero, List.set_cons_succ])
        refine wpAnyH_ready (rs := [7]) (by kernel_rfl) (by simp) ?_
        refine AllReadyH.cons (o := _) rfl (fun K hK => ?_) AllReadyH.nil
        go_simp
        refine hK.out _ _ (YB.out _ _) (fun hHeld => ?_)
        clear hK K
        (try simp only [Act.put, Array.getInternal_eq_getElem, List.getElem_toArray, List.getElem_cons_zero, List.getElem_cons_succ, List.setIfInBounds_toArray, List.set_cons_zero, List.set_cons_succ])
        refine wpAnyH_take (i := 9) (oi := _) (v := ?vb9) rfl (by kernel_rfl) (by kernel_rfl) (by kernel_rfl) (fun _ _ _ h => h) (Or.inl ⟨by rfl, ?hyb9⟩) (by assumption) ?restb9
        case hyb9 => ((intro w hSw; (try dsimp only at hSw); go_simp); (try with_reducible rfl))
        (try simp only [Act.put, Array.getInternal_eq_getElem, List.getElem_toArray, List.getElem_cons_zero, List.getElem_cons_succ, List.setIfInBounds_toArray, List.set_cons_zero, List.set_cons_succ])
        refine wpAnyH_done (by kernel_rfl) ?_ _
        obtain ⟨hz1, hz2, hz3, hz4⟩ := two_made W M b10 v0 (by unfold maxLen; omega)
        obtain ⟨w6, hw6⟩ : ∃ w6, w6 = ((W.alloc (.cells (madeCells #[Value.int .u64 0] M) 40)).alloc (.cells (madeCells #[Value.int .u64 0] M) 40)).drew := ⟨_, rfl⟩
        rw [← hw6] at hz1 hz2 hz3 hz4 ⊢
        clear hw6
        obtain ⟨gN, hgN⟩ : ∃ gN, W.heap.size + 1 = gN := ⟨_, rfl⟩
        obtain ⟨gB, hgB⟩ : ∃ gB, W.heap.size = gB := ⟨_, rfl⟩
        have hB6 := Lib.hid (hgB ▸ hz1)
        have hN6 := Lib.hid (hgN ▸ hz2)
        have hM6 := Lib.hid hz3
        have hNS6 := Lib.hid (HNS.out.kept (hz4 b10 (by omega)) (fun g cs hg _ => hz4 g (HNS.out.2.lt g hg).2))
        have hgBn : gB ≠ gN := by omega
        have hgB1 : W.heap.size ≤ gB := by omega
        have hgN1 : W.heap.size ≤ gN := by omega
        rw [hgN, hgB]
        clear hz1 hz2 hz3 hz4 hgB hgN
        rotate_left
        go_simp
        refine hK.out _ _ (YA.out _) (fun hHeld2 => ?_)
        clear hK K
        (try simp only [Act.put, Array.getInternal_eq_getElem, List.getElem_toArray, List.getElem_cons_zero, List.getElem_cons_succ, List.setIfInBounds_toArray, List.set_cons_zero, List.set_cons_succ])
        refine wpAnyH_ready (rs := [3]) (by kernel_rfl) (by simp) ?_
        refine AllReadyH.cons (o := _) rfl (fun K hK => ?_) AllReadyH.nil
        go_simp
        refine hK.out _ _ (YB.out _ _) (fun hHeld => ?_)
        clear hK K
        (try simp only [Act.put, Array.getInternal_eq_getElem, List.getElem_toArray, List.getElem_cons_zero, List.getElem_cons_succ, List.setIfInBounds_toArray, List.set_cons_zero, List.set_cons_succ])
        refine wpAnyH_take (i := 8) (oi := _) (v := ?vc8) rfl (by kernel_rfl) (by kernel_rfl) (by kernel_rfl) (fun _ _ _ h => h) (Or.inl ⟨by rfl, ?hyc8⟩) (by assumption) ?restc8
        case hyc8 => ((intro w hSw; (try dsimp only at hSw); go_simp); (try with_reducible rfl))
        (try simp only [Act.put, Array.getInternal_eq_getElem, List.getElem_toArray, List.getElem_cons_zero, List.getElem_cons_succ, List.setIfInBounds_toArray, List.set_cons_zero, List.set_cons_succ])
        refine wpAnyH_take (i := 9) (oi := _) (v := ?vc9) rfl (by kernel_rfl) (by kernel_rfl) (by kernel_rfl) (fun _ _ _ h => h) (Or.inl ⟨by rfl, ?hyc9⟩) (by assumption) ?restc9
        case hyc9 => ((intro w hSw; (try dsimp only at hSw); go_simp); (try with_reducible rfl))
        (try simp only [Act.put, Array.getInternal_eq_getElem, List.getElem_toArray, List.getElem_cons_zero, List.getElem_cons_succ, List.setIfInBounds_toArray, List.set_cons_zero, List.set_cons_succ])
        refine wpAnyH_done (by kernel_rfl) ?_ _
        obtain ⟨hz1, hz2, hz3, hz4⟩ := two_made W M b10 v0 (by unfold maxLen; omega)
        obtain ⟨w6, hw6⟩ : ∃ w6, w6 = ((W.alloc (.cells (madeCells #[Value.int .u64 0] M) 40)).alloc (.cells (madeCells #[Value.int .u64 0] M) 40)).drew := ⟨_, rfl⟩
        rw [← hw6] at hz1 hz2 hz3 hz4 ⊢
        clear hw6
        obtain ⟨gB, hgB⟩ : ∃ gB, W.heap.size + 1 = gB := ⟨_, rfl⟩
        obtain ⟨gN, hgN⟩ : ∃ gN, W.heap.size = gN := ⟨_, rfl⟩
        have hB6 := Lib.hid (hgB ▸ hz2)
        have hN6 := Lib.hid (hgN ▸ hz1)
        have hM6 := Lib.hid hz3
        have hNS6 := Lib.hid (HNS.out.kept (hz4 b10 (by omega)) (fun g cs hg _ => hz4 g (HNS.out.2.lt g hg).2))
        have hgBn : gB ≠ gN := by omega
        have hgB1 : W.heap.size ≤ gB := by omega
        have hgN1 : W.heap.size ≤ gN := by omega
        rw [hgB, hgN]
        clear hz1 hz2 hz3 hz4 hgB hgN
        · have hlow6 := hM6.out.low HNS.out q6 hWs
          have c8 := (World.cell?_of_block (a := ⟨b8, 0, none⟩) (hlow6 b8 (by omega) (by omega))).trans y8
          have cr8 := (World.cell?_of_block (a := ⟨rb, ro + xv, none⟩) (hlow6 rb (by omega) (by omega))).trans hcr
          have hMI : MapI M N n₁ mb pre.length s.rc W := HMN.out ▸ HI.out.map
          have HMI := Lib.hid hMI
          clear hMI hlow6
          gi_wp2
          gi_loopw [58] (fun i wr => ∃ (q : Nat) (ws : List Nat), q ≤ (outRow l xv l.length).length ∧ i = .int .i64 q ∧ Hid (SetAt wr gB M ws) ∧ Hid (SetAt wr gN M (List.replicate M 0)) ∧ Hid (∀ j, j < N → sbit ws j = beyB l s.rc ((outRow l xv l.length).take q) j) ∧ Hid (NS wr b10 v0 s.nd) ∧ Hid (Moves W wr b10 v0 v0)) (fun i _ => (outRow l xv l.length).length - (intOf i).toNat)
          case atStart => exact ⟨0, _, Nat.zero_le _, rfl, hB6, hN6, Lib.hid fun j _ => by rw [sbit_zero]; simp [beyB], hNS6, hM6⟩
          case round =>
            clear hB6 hN6 hM6 hNS6 c8 cr8
            obtain ⟨q, ws, hq, rfl, hB6, hN6, hBit, hNS6, hM6⟩ := hrel
            have hlow := hM6.out.low HNS.out q6 hWs
            have c3' := (World.cell?_of_block (a := ⟨b3, 0, none⟩) (hlow b3 (by omega) (by omega))).trans y3
            have c8 := (World.cell?_of_block (a := ⟨b8, 0, none⟩) (hlow b8 (by omega) (by omega))).trans y8
            have c9 := (World.cell?_of_block (a := ⟨b9, 0, none⟩) (hlow b9 (by omega) (by omega))).trans y9
            have cr8 := (World.cell?_of_block (a := ⟨rb, ro + xv, none⟩) (hlow rb (by omega) (by omega))).trans hcr
            by_cases hlt : q < (outRow l xv l.length).length
            · have hrkr : RK .i64 wr b8 Ar (outRow l xv l.length) := HRK.out.keep fun p hp => World.cell?_of_block (hlow p.block (by omega) (by omega))
              have hcr2 : RE wr b8 A l := HCW.out.keep fun p hp => World.cell?_of_block (hlow p.block (by omega) (by omega))
              obtain ⟨pb, po, i, rfl, hpb, hi, hci⟩ := hrkr.at_ (Below.refl b8 wr) hlt
              obtain ⟨i, rfl, hil, hif⟩ := mem_outRow (List.mem_of_getElem? hi.out)
              obtain ⟨eb, eo, f, t, kk, rfl, heb, he, he1, he2, he3⟩ := hcr2.at_ (Below.refl b8 wr) hil
              have heg : eg l i = ⟨f, t, kk⟩ := by simp [eg, List.getD, he.out]
              have hmem := HOK.out _ (List.mem_of_getElem? he.out)
              simp only at hmem
              obtain ⟨t, rfl⟩ := Int.eq_ofNat_of_zero_le hmem.2.1
              have htN : t < N := by have := hmem.2.2; omega
              have htg : tg l (i : Int) = t := by simp [tg, heg]
              have hbn := fun j => beyB_next (l := l) (rc := s.rc) hi.out j
              rw [htg] at hbn
              have hMIr := HMI.out.look_moved (hM6.out.none_ (grown_drew _ none)) HNS.out q6 hWs (by omega) (by omega) (by omega) hN htN
              have HBN := Lib.hid hbn
              have i3 : (0 : Int) ≤ (q : Int) := by omega
              have i4 : (q : Int) < ((outRow l xv l.length).length : Int) := by omega
              have i5 : (0 : Int) ≤ (i : Int) := by omega
              have i6 : (i : Int) < (l.length : Int) := by omega
              rcases hMIr with ⟨hnone, v, hlk⟩ | ⟨fs, g, us, hsome, hlk, hg1, hg2, hsu, hfu⟩
              · clear hbn htg heg hmem he hif hrkr hcr2 hlow hcr he3
                gi_wp2
                refine region_in_round l0 _ hmx (by kernel_rfl) (by rintro ⟨a, w, h⟩; exact h) (S := fun W' => W' = wr.drew) rfl (fun hHeld => ?_)
                refine wpAnyH_take (i := 0) (oi := _) (v := ?ve0) rfl (by kernel_rfl) (by kernel_rfl) (by kernel_rfl) (fun _ _ _ h => h) (Or.inl ⟨by rfl, ?hye0⟩) rfl ?reste0
                case hye0 => ((intro w hSw; (try dsimp only at hSw); subst hSw; go_simp); (try with_reducible rfl))
                (try simp only [Act.put, Array.getInternal_eq_getElem, List.getElem_toArray, List.getElem_cons_zero, List.getElem_cons_succ, List.setIfInBounds_toArray, List.set_cons_zero, List.set_cons_succ])
                refine wpAnyH_take (i := 1) (oi := _) (v := ?ve1) rfl (by kernel_rfl) (by kernel_rfl) (by kernel_rfl) (fun _ _ _ h => h) (Or.inl ⟨by rfl, ?hye1⟩) rfl ?reste1
                case hye1 => ((intro w hSw; (try dsimp only at hSw); subst hSw; go_simp); (try with_reducible rfl))
                (try simp only [Act.put, Array.getInternal_eq_getElem, List.getElem_toArray, List.getElem_cons_zero, List.getElem_cons_succ, List.setIfInBounds_toArray, List.set_cons_zero, List.set_cons_succ])
                refine wpAnyH_take (i := 2) (oi := _) (v := ?ve2) rfl (by kernel_rfl) (by kernel_rfl) (by kernel_rfl) (fun _ _ _ h => h) (Or.inl ⟨by rfl, ?hye2⟩) rfl ?reste2
                case hye2 => ((intro w hSw; (try dsimp only at hSw); subst hSw; go_simp); (try with_reducible rfl))
                (try simp only [Act.put, Array.getInternal_eq_getElem, List.getElem_toArray, List.getElem_cons_zero, List.getElem_cons_succ, List.setIfInBounds_toArray, List.set_cons_zero, List.set_cons_succ])
                refine wpAnyH_take (i := 3) (oi := _) (v := ?ve3) rfl (by kernel_rfl) (by kernel_rfl) (by kernel_rfl) (fun _ _ _ h => h) (Or.inl ⟨by rfl, ?hye3⟩) rfl ?reste3
                case hye3 => ((intro w hSw; (try dsimp only at hSw); subst hSw; go_simp); (try with_reducible rfl))
                (try simp only [Act.put, Array.getInternal_eq_getElem, List.getElem_toArray, List.getElem_cons_zero, List.getElem_cons_succ, List.setIfInBounds_toArray, List.set_cons_zero, List.set_cons_succ])
                refine wpAnyH_take (i := 4) (oi := _) (v := ?ve4) rfl (by kernel_rfl) (by kernel_rfl) (by kernel_rfl) (fun _ _ _ h => h) (Or.inl ⟨by rfl, ?hye4⟩) rfl ?reste4
                case hye4 => ((intro w hSw; (try dsimp only at hSw); subst hSw; go_simp); (try with_reducible rfl))
                (try simp only [Act.put, Array.getInternal_eq_getElem, List.getElem_toArray, List.getElem_cons_zero, List.getElem_cons_succ, List.setIfInBounds_toArray, List.set_cons_zero, List.set_cons_succ])
                refine wpAnyH_take (i := 5) (oi := _) (v := ?ve5) rfl (by kernel_rfl) (by kernel_rfl) (by kernel_rfl) (fun _ _ _ h => h) (Or.inl ⟨by rfl, ?hye5⟩) rfl ?reste5
                case hye5 => ((intro w hSw; (try dsimp only at hSw); subst hSw; go_simp); (try with_reducible rfl))
                (try simp only [Act.put, Array.getInternal_eq_getElem, List.getElem_toArray, List.getElem_cons_zero, List.getElem_cons_succ, List.setIfInBounds_toArray, List.set_cons_zero, List.set_cons_succ])
                refine wpAnyH_take (i := 6) (oi := _) (v := ?ve6) rfl (by kernel_rfl) (by kernel_rfl) (by kernel_rfl) (fun _ _ _ h => h) (Or.inl ⟨by rfl, ?hye6⟩) rfl ?reste6
                case hye6 => ((intro w hSw; (try dsimp only at hSw); subst hSw; go_simp); (try with_reducible rfl))
                (try simp only [Act.put, Array.getInternal_eq_getElem, List.getElem_toArray, List.getElem_cons_zero, List.getElem_cons_succ, List.setIfInBounds_toArray, List.set_cons_zero, List.set_cons_succ])
                refine wpAnyH_take (i := 7) (oi := _) (v := ?ve7) rfl (by kernel_rfl) (by kernel_rfl) (by kernel_rfl) (fun _ _ _ h => h) (Or.inl ⟨by rfl, ?hye7⟩) rfl ?reste7
                case hye7 => ((intro w hSw; (try dsimp only at hSw); subst hSw; go_simp); (try with_reducible rfl))
                (try simp only [Act.put, Array.getInternal_eq_getElem, List.getElem_toArray, List.getElem_cons_zero, List.getElem_cons_succ, List.setIfInBounds_toArray, List.set_cons_zero, List.set_cons_succ])
                refine wpAnyH_take (i := 8) (oi := _) (v := ?ve8) rfl (by kernel_rfl) (by kernel_rfl) (by kernel_rfl) (fun _ _ _ h => h) (Or.inl ⟨by rfl, ?hye8⟩) rfl ?reste8
                case hye8 => ((intro w hSw; (try dsimp only at hSw); subst hSw; go_simp); (try with_reducible rfl))
                (try simp only [Act.put, Array.getInternal_eq_getElem, List.getElem_toArray, List.getElem_cons_zero, List.getElem_cons_succ, List.setIfInBounds_toArray, List.set_cons_zero, List.set_cons_succ])
                refine wpAnyH_take (i := 9) (oi := _) (v := ?ve9) rfl (by kernel_rfl) (by kernel_rfl) (by kernel_rfl) (fun _ _ _ h => h) (Or.inl ⟨by rfl, ?hye9⟩) rfl ?reste9
                case hye9 => ((intro w hSw; (try dsimp only at hSw); subst hSw; go_simp); (try with_reducible rfl))
                (try simp only [Act.put, Array.getInternal_eq_getElem, List.getElem_toArray, List.getElem_cons_zero, List.getElem_cons_succ, List.setIfInBounds_toArray, List.set_cons_zero, List.set_cons_succ])
                refine wpAnyH_take (i := 10) (oi := _) (v := ?ve10) rfl (by kernel_rfl) (by kernel_rfl) (by kernel_rfl) (fun _ _ _ h => h) (Or.inl ⟨by rfl, ?hye10⟩) rfl ?reste10
                case hye10 => ((intro w hSw; (try dsimp only at hSw); subst hSw; go_simp); (try with_reducible rfl))
                (try simp only [Act.put, Array.getInternal_eq_getElem, List.getElem_toArray, List.getElem_cons_zero, List.getElem_cons_succ, List.setIfInBounds_toArray, List.set_cons_zero, List.set_cons_succ])
                refine wpAnyH_take (i := 11) (oi := _) (v := ?ve11) rfl (by kernel_rfl) (by kernel_rfl) (by kernel_rfl) (fun _ _ _ h => h) (Or.inl ⟨by rfl, ?hye11⟩) rfl ?reste11
                case hye11 => ((intro w hSw; (try dsimp only at hSw); subst hSw; go_simp); (try with_reducible rfl))
                (try simp only [Act.put, Array.getInternal_eq_getElem, List.getElem_toArray, List.getElem_cons_zero, List.getElem_cons_succ, List.setIfInBounds_toArray, List.set_cons_zero, List.set_cons_succ])
                refine wpAnyH_done (by kernel_rfl) ?_ _
                gi_wp2
                go_roundw
                case rel => exact ⟨q + 1, ws, hlt, by go_num, Lib.hid ⟨hB6.out.own, hB6.out.small⟩, Lib.hid ⟨hN6.out.own, hN6.out.small⟩, Lib.hid fun j hj => by rw [HBN.out j, hnone, hBit.out j hj]; simp, Lib.hid hNS6.out.drew, Lib.hid (hM6.out.none_ (grown_drew _ none))⟩
                case measure => simp [intOf]; omega
              · clear hbn htg heg hmem he hif hrkr hcr2 hlow hcr he3
                have hjn := join_set gB g M ws us wr.drew ⟨hB6.out.own, hB6.out.small⟩ hsu (by omega) (by omega)
                have HJN := Lib.hid hjn
                have HFU := Lib.hid hfu
                have hgBg : gB < wr.heap.size := hB6.out.lt
                clear hjn hsu hfu
                gi_wp2
                refine region_in_round l0 _ hmx (by kernel_rfl) (by rintro ⟨a, w, h⟩; exact h) (S := fun W' => W' = wr.drew) rfl (fun hHeld => ?_)
                refine wpAnyH_take (i := 0) (oi := _) (v := ?vf0) rfl (by kernel_rfl) (by kernel_rfl) (by kernel_rfl) (fun _ _ _ h => h) (Or.inl ⟨by rfl, ?hyf0⟩) rfl ?restf0
                case hyf0 => ((intro w hSw; (try dsimp only at hSw); subst hSw; go_simp); (try with_reducible rfl))
                (try simp only [Act.put, Array.getInternal_eq_getElem, List.getElem_toArray, List.getElem_cons_zero, List.getElem_cons_succ, List.setIfInBounds_toArray, List.set_cons_zero, List.set_cons_succ])
                refine wpAnyH_take (i := 1) (oi := _) (v := ?vf1) rfl (by kernel_rfl) (by kernel_rfl) (by kernel_rfl) (fun _ _ _ h => h) (Or.inl ⟨by rfl, ?hyf1⟩) rfl ?restf1
                case hyf1 => ((intro w hSw; (try dsimp only at hSw); subst hSw; go_simp); (try with_reducible rfl))
                (try simp only [Act.put, Array.getInternal_eq_getElem, List.getElem_toArray, List.getElem_cons_zero, List.getElem_cons_succ, List.setIfInBounds_toArray, List.set_cons_zero, List.set_cons_succ])
                refine wpAnyH_take (i := 2) (oi := _) (v := ?vf2) rfl (by kernel_rfl) (by kernel_rfl) (by kernel_rfl) (fun _ _ _ h => h) (Or.inl ⟨by rfl, ?hyf2⟩) rfl ?restf2
                case hyf2 => ((intro w hSw; (try dsimp only at hSw); subst hSw; go_simp); (try with_reducible rfl))
                (try simp only [Act.put, Array.getInternal_eq_getElem, List.getElem_toArray, List.getElem_cons_zero, List.getElem_cons_succ, List.setIfInBounds_toArray, List.set_cons_zero, List.set_cons_succ])
                refine wpAnyH_take (i := 3) (oi := _) (v := ?vf3) rfl (by kernel_rfl) (by kernel_rfl) (by kernel_rfl) (fun _ _ _ h => h) (Or.inl ⟨by rfl, ?hyf3⟩) rfl ?restf3
                case hyf3 => ((intro w hSw; (try dsimp only at hSw); subst hSw; go_simp); (try with_reducible rfl))
                (try simp only [Act.put, Array.getInternal_eq_getElem, List.getElem_toArray, List.getElem_cons_zero, List.getElem_cons_succ, List.setIfInBounds_toArray, List.set_cons_zero, List.set_cons_succ])
                refine wpAnyH_take (i := 4) (oi := _) (v := ?vf4) rfl (by kernel_rfl) (by kernel_rfl) (by kernel_rfl) (fun _ _ _ h => h) (Or.inl ⟨by rfl, ?hyf4⟩) rfl ?restf4
                case hyf4 => ((intro w hSw; (try dsimp only at hSw); subst hSw; go_simp); (try with_reducible rfl))
                (try simp only [Act.put, Array.getInternal_eq_getElem, List.getElem_toArray, List.getElem_cons_zero, List.getElem_cons_succ, List.setIfInBounds_toArray, List.set_cons_zero, List.set_cons_succ])
                refine wpAnyH_take (i := 5) (oi := _) (v := ?vf5) rfl (by kernel_rfl) (by kernel_rfl) (by kernel_rfl) (fun _ _ _ h => h) (Or.inl ⟨by rfl, ?hyf5⟩) rfl ?restf5
                case hyf5 => ((intro w hSw; (try dsimp only at hSw); subst hSw; go_simp); (try with_reducible rfl))
                (try simp only [Act.put, Array.getInternal_eq_getElem, List.getElem_toArray, List.getElem_cons_zero, List.getElem_cons_succ, List.setIfInBounds_toArray, List.set_cons_zero, List.set_cons_succ])
                refine wpAnyH_take (i := 6) (oi := _) (v := ?vf6) rfl (by kernel_rfl) (by kernel_rfl) (by kernel_rfl) (fun _ _ _ h => h) (Or.inl ⟨by rfl, ?hyf6⟩) rfl ?restf6
                case hyf6 => ((intro w hSw; (try dsimp only at hSw); subst hSw; go_simp); (try with_reducible rfl))
                (try simp only [Act.put, Array.getInternal_eq_getElem, List.getElem_toArray, List.getElem_cons_zero, List.getElem_cons_succ, List.setIfInBounds_toArray, List.set_cons_zero, List.set_cons_succ])
                refine wpAnyH_take (i := 7) (oi := _) (v := ?vf7) rfl (by kernel_rfl) (by kernel_rfl) (by kernel_rfl) (fun _ _ _ h => h) (Or.inl ⟨by rfl, ?hyf7⟩) rfl ?restf7
                case hyf7 => ((intro w hSw; (try dsimp only at hSw); subst hSw; go_simp); (try with_reducible rfl))
                (try simp only [Act.put, Array.getInternal_eq_getElem, List.getElem_toArray, List.getElem_cons_zero, List.getElem_cons_succ, List.setIfInBounds_toArray, List.set_cons_zero, List.set_cons_succ])
                refine wpAnyH_take (i := 8) (oi := _) (v := ?vf8) rfl (by kernel_rfl) (by kernel_rfl) (by kernel_rfl) (fun _ _ _ h => h) (Or.inl ⟨by rfl, ?hyf8⟩) rfl ?restf8
                case hyf8 => ((intro w hSw; (try dsimp only at hSw); subst hSw; go_simp); (try with_reducible rfl))
                (try simp only [Act.put, Array.getInternal_eq_getElem, List.getElem_toArray, List.getElem_cons_zero, List.getElem_cons_succ, List.setIfInBounds_toArray, List.set_cons_zero, List.set_cons_succ])
                refine wpAnyH_take (i := 9) (oi := _) (v := ?vf9) rfl (by kernel_rfl) (by kernel_rfl) (by kernel_rfl) (fun _ _ _ h => h) (Or.inl ⟨by rfl, ?hyf9⟩) rfl ?restf9
                case hyf9 => ((intro w hSw; (try dsimp only at hSw); subst hSw; go_simp); (try with_reducible rfl))
                (try simp only [Act.put, Array.getInternal_eq_getElem, List.getElem_toArray, List.getElem_cons_zero, List.getElem_cons_succ, List.setIfInBounds_toArray, List.set_cons_zero, List.set_cons_succ])
                refine wpAnyH_take (i := 10) (oi := _) (v := ?vf10) rfl (by kernel_rfl) (by kernel_rfl) (by kernel_rfl) (fun _ _ _ h => h) (Or.inl ⟨by rfl, ?hyf10⟩) rfl ?restf10
                case hyf10 => ((intro w hSw; (try dsimp only at hSw); subst hSw; go_simp); (try with_reducible rfl))
                (try simp only [Act.put, Array.getInternal_eq_getElem, List.getElem_toArray, List.getElem_cons_zero, List.getElem_cons_succ, List.setIfInBounds_toArray, List.set_cons_zero, List.set_cons_succ])
                refine wpAnyH_take (i := 11) (oi := _) (v := ?vf11) rfl (by kernel_rfl) (by kernel_rfl) (by kernel_rfl) (fun _ _ _ h => h) (Or.inl ⟨by rfl, ?hyf11⟩) rfl ?restf11
                case hyf11 => ((intro w hSw; (try dsimp only at hSw); subst hSw; go_simp); (try with_reducible rfl))
                (try simp only [Act.put, Array.getInternal_eq_getElem, List.getElem_toArray, List.getElem_cons_zero, List.getElem_cons_succ, List.setIfInBounds_toArray, List.set_cons_zero, List.set_cons_succ])
                refine wpAnyH_done (by kernel_rfl) ?_ _
                gi_wp2
                refine ⟨trivial, CallsIn.inRound l0 (callsIn_wide.2 (HJN.out.mono ?_))⟩
                rintro e w7 ⟨ws', rfl, hs7, hb7, hg7⟩
                have hM7 := (hM6.out.none_ (grown_drew _ none)).fresh hg7 hgB1
                have hN7 : SetAt w7 gN M (List.replicate M 0) := SetAt.kept ⟨hN6.out.own, hN6.out.small⟩ (hg7.block gN hN6.out.lt (fun e => by injection e with e; omega))
                have hNS7 := hNS6.out.drew.fresh hg7 (by omega) (fun e => by have := (HNS.out.2.lt gB e).2; omega)
                have HNS7 := Lib.hid hNS7
                clear hNS7
                have HS7 := Lib.hid hs7
                have HB7 := Lib.hid hb7
                have HM7 := Lib.hid hM7
                have HN7 := Lib.hid hN7
                clear hs7 hb7 hg7 hM7 hN7 HJN
                gi_wp2
                go_roundw
                case rel => exact ⟨q + 1, ws', hlt, by go_num, HS7, HN7, Lib.hid fun j hj => by rw [HB7.out j (by have := HMN.out; omega), HBN.out j, hsome, hBit.out j hj, HFU.out j hj], HNS7, HM7⟩
                case measure => simp [intOf]; omega
            · have hql : q = (outRow l xv l.length).length := by omega
              subst hql
              rw [List.take_length] at hBit
              obtain ⟨bey, hbey⟩ : ∃ bey, beyB l s.rc (outRow l xv l.length) = bey := ⟨_, rfl⟩
              rw [hbey] at hBit
              have HBEY := Lib.hid hbey
              have hndl := HI.out.len
              have hrl := nx_len (x := xv) HOK.out
              have HRL := Lib.hid hrl
              obtain ⟨Av, cv, hv0⟩ := own_shape HNS.out.2
              clear hbey hrl hcr
              gi_wp2
              gi_loopw [82] (fun i wr => ∃ (q : Nat) (ws' : List Nat) (Av : Option Addr) (cv : Nat), q ≤ (outRow l xv l.length).length ∧ i = .int .i64 q ∧ Hid (SetAt wr gN M ws') ∧ Hid (SetAt wr gB M ws) ∧ Hid (∀ j, j < N → sbit ws' j = nxB l ((outRow l xv l.length).take q) j) ∧ Hid (NS wr b10 (.slice Av (s.nd ++ ndR l bey (outRow l xv l.length) q).length cv) (s.nd ++ ndR l bey (outRow l xv l.length) q)) ∧ Hid (Moves W wr b10 v0 (.slice Av (s.nd ++ ndR l bey (outRow l xv l.length) q).length cv))) (fun i _ => (outRow l xv l.length).length - (intOf i).toNat)
              case atStart =>
                refine ⟨0, _, Av, cv, Nat.zero_le _, rfl, hN6, hB6, Lib.hid fun j _ => by rw [sbit_zero]; simp [nxB], Lib.hid ?_, Lib.hid ?_⟩
                · simp only [ndR, List.append_nil]
                  rw [← hv0]
                  exact hNS6.out
                · simp only [ndR, List.append_nil]
                  rw [← hv0]
                  exact hM6.out
              case round =>
                clear hB6 hN6 hM6 hNS6 hlow c3' c8 c9 cr8 hv0 Av cv
                obtain ⟨q, ws', Av, cv, hq, rfl, hN6, hB6, hNx, hNS6, hM6⟩ := hrel
                have hlow := hM6.out.low HNS.out q6 hWs
                have c3' := (World.cell?_of_block (a := ⟨b3, 0, none⟩) (hlow b3 (by omega) (by omega))).trans y3
                have hlen6 := ndR_len (b := bey) HRL.out q
                obtain ⟨nd, hnd⟩ : ∃ nd, s.nd ++ ndR l bey (outRow l xv l.length) q = nd := ⟨_, rfl⟩
                have hndl2 : nd.length ≤ 4295032832 := by rw [← hnd, List.length_append]; omega
                rw [hnd] at hNS6 hM6
                have HND := Lib.hid hnd
                have c10 := hNS6.out.cell
                have f10 := frozen_of_row wr b10 0 _ 31 hNS6.out.1
                clear hnd hlen6
                by_cases hlt : q < (outRow l xv l.length).length
                · have hrkr : RK .i64 wr b8 Ar (outRow l xv l.length) := HRK.out.keep fun p hp => World.cell?_of_block (hlow p.block (by omega) (by omega))
                  have hcr2 : RE wr b8 A l := HCW.out.keep fun p hp => World.cell?_of_block (hlow p.block (by omega) (by omega))
                  obtain ⟨pb, po, i, rfl, hpb, hi, hci⟩ := hrkr.at_ (Below.refl b8 wr) hlt
                  obtain ⟨i, rfl, hil, hif⟩ := mem_outRow (List.mem_of_getElem? hi.out)
                  obtain ⟨eb, eo, f, t, kk, rfl, heb, he, he1, he2, he3⟩ := hcr2.at_ (Below.refl b8 wr) hil
                  have heg : eg l i = ⟨f, t, kk⟩ := by simp [eg, List.getD, he.out]
                  have hmem := HOK.out _ (List.mem_of_getElem? he.out)
                  simp only at hmem
                  obtain ⟨t, rfl⟩ := Int.eq_ofNat_of_zero_le hmem.2.1
                  have htN : t < N := by have := hmem.2.2; omega
                  have htg : tg l (i : Int) = t := by simp [tg, heg]
                  have hnn := fun j => nxB_next (l := l) hi.out j
                  have hdn := ndR_next (l := l) (b := bey) hi.out
                  rw [htg] at hnn hdn
                  have HNN := Lib.hid hnn
                  have HDN := Lib.hid hdn
                  have hM0 := HMN.out
                  have htM : t / 64 < M := by omega
                  have hhas := has_set gN M t ws' wr hN6.out (by omega) htM
                  have hadd := add_set gN M t ws' wr hN6.out (by omega) htM
                  have hnx1 := hNx.out t htN
                  have HADD := Lib.hid hadd
                  have i3 : (0 : Int) ≤ (q : Int) := by omega
                  have i4 : (q : Int) < ((outRow l xv l.length).length : Int) := by omega
                  have i5 : (0 : Int) ≤ (i : Int) := by omega
                  have i6 : (i : Int) < (l.length : Int) := by omega
                  obtain ⟨s1, hs1⟩ : ∃ s1, sbit ws' t = s1 := ⟨_, rfl⟩
                  rw [hs1] at hhas hnx1
                  have HHAS := Lib.hid hhas
                  have HNX1 := Lib.hid hnx1
                  have HS1 := Lib.hid hs1
                  clear hadd hnx1 hM0 hnn hdn htg heg hmem he hif hi hrkr hcr2 he3 hhas hs1
                  cases s1 with
                  | true =>
                    gi_wp2
                    refine ⟨trivial, CallsIn.inRound l0 (callsIn_wide.2 (HHAS.out.mono ?_))⟩
                    rintro e wr ⟨rfl, rfl⟩
                    gi_wp2
                    go_roundw
                    case rel =>
                      have hd2 : ndR l bey (outRow l xv l.length) (q + 1) = ndR l bey (outRow l xv l.length) q := by rw [HDN.out, ← HNX1.out]; simp
                      refine ⟨q + 1, ws', Av, cv, hlt, by go_num, hN6, hB6, Lib.hid fun j hj => ?_, Lib.hid (by rw [hd2, HND.out]; exact hNS6.out), Lib.hid (by rw [hd2, HND.out]; exact hM6.out)⟩
                      rw [HNN.out j, hNx.out j hj]
                      by_cases e : t = j
                      · subst e; rw [← HNX1.out]; simp
                      · simp [e]
                    case measure => simp [intOf]; omega
                  | false =>
                    gi_wp2
                    refine ⟨trivial, CallsIn.inRound l0 (callsIn_wide.2 (HHAS.out.mono ?_))⟩
                    rintro e wr ⟨rfl, rfl⟩
                    gi_wp2
                    refine ⟨trivial, CallsIn.inRound l0 (callsIn_wide.2 (HADD.out.mono ?_))⟩
                    rintro e w7 ⟨ws2, rfl, hs7, hb7, hg7⟩
                    have hB7 : SetAt w7 gB M ws := hB6.out.kept (hg7.block gB hB6.out.lt (fun e => by injection e with e; exact hgBn e))
                    have hM7 := hM6.out.fresh hg7 hgN1
                    have hNS7 := hNS6.out.fresh hg7 (by omega) (hNS6.out.not_set hN6.out)
                    have hhas2 := has_set gB M t ws w7 hB7 (by omega) htM
                    rw [hBit.out t htN] at hhas2
                    have hnew : ∀ j, j < N → sbit ws2 j = nxB l ((outRow l xv l.length).take (q + 1)) j := by
                      intro j hj
                      rw [hb7 j, HNN.out j, hNx.out j hj]
                      congr 1
                      exact decide_eq_decide.2 ⟨fun e => e.symm, fun e => e.symm⟩
                    have c10' := hNS7.cell
                    have f10' := frozen_of_row w7 b10 0 _ 31 hNS7.1
                    obtain ⟨s2, hs2⟩ : ∃ s2, bey t = s2 := ⟨_, rfl⟩
                    rw [hs2] at hhas2
                    have HHAS2 := Lib.hid hhas2
                    have HS2 := Lib.hid hs2
                    have HS7 := Lib.hid hs7
                    have HB7 := Lib.hid hB7
                    have HM7 := Lib.hid hM7
                    have HNS7 := Lib.hid hNS7
                    have HNEW := Lib.hid hnew
                    have hdn2 := HDN.out
                    rw [← HNX1.out, hs2] at hdn2
                    have HDN2 := Lib.hid hdn2
                    clear hs7 hb7 hg7 hB7 hM7 hNS7 hhas2 hnew hs2 hdn2 HDN HNN HADD HHAS c10 f10 c3'
                    cases s2 with
                    | true =>
                      gi_wp2
                      refine ⟨trivial, CallsIn.inRound l0 (callsIn_wide.2 (HHAS2.out.mono ?_))⟩
                      rintro e w7 ⟨rfl, rfl⟩
                      gi_wp2
                      go_roundw
                      case rel =>
                        have hd2 : ndR l bey (outRow l xv l.length) (q + 1) = ndR l bey (outRow l xv l.length) q := by rw [HDN2.out]; simp
                        exact ⟨q + 1, ws2, Av, cv, hlt, by go_num, HS7, HB7, HNEW, Lib.hid (by rw [hd2, HND.out]; exact HNS7.out), Lib.hid (by rw [hd2, HND.out]; exact HM7.out)⟩
                      case measure => simp [intOf]; omega
                    | false =>
                      gi_wp2
                      refine ⟨trivial, CallsIn.inRound l0 (callsIn_wide.2 (HHAS2.out.mono ?_))⟩
                      rintro e w7 ⟨rfl, rfl⟩
                      gi_wp2_with (gi_at_builtin; refine halt_ ?_)
                      refine Halt_.go ?_
                      have hNS8 := HNS7.out.alloc (.cells #[.int .i64 (i : Int)] 3)
                      have hM8 := HM7.out.none_ (World.grownBy_alloc w7 (.cells #[.int .i64 (i : Int)] 3) none)
                      refine wlIn_append_two _ l0 _ (by rfl) (.tmp 102) (.tmp 104) 31 (by rfl) (b10 + 2) 3 _ 1 8 info3 Try.underlying31 rfl (by decide) (.slice Av nd.length cv) nd.length (ints nd) (by rfl) hNS8.2 w7.heap.size 1 [.int .i64 (i : Int)] (by rfl) (heap_at _ _ _ rfl) rfl (by simp [Value.oneCell']) (by omega) (by omega) (by have := HM7.out.size; simp; omega) ?_
                      intro g cap' w8 hown8 hlt8 htwo8
                      have hgr8 := two_grown htwo8
                      have hne0 : some b10 ≠ (Value.slice Av nd.length cv).ownBlock := fun e => hNS8.far (by omega) e.symm
                      have hq2 : w8.cell? ⟨b10, 0, none⟩ = some (.slice Av nd.length cv) := hgr8.cell hNS8.cell hne0
                      have hq3 : w8.frozen? ⟨b10, 0, none⟩ = false := grown_frozen hgr8 (by have := (Array.getElem?_eq_some_iff.1 hNS8.1).1; exact this) hne0 (frozen_of_row _ b10 0 _ 31 hNS8.1)
                      obtain ⟨hp1, hp2⟩ := hNS8.pushed rfl hgr8 hown8 (by
                        rcases htwo8 with ⟨h, _⟩ | ⟨h, _⟩
                        · exact .inl h
                        · exact .inr (Nat.le_of_eq h.symm))
                      have hsn : SetAt (w8.setCell ⟨b10, 0, none⟩ (.slice (some ⟨g, 0, none⟩) (nd.length + 1) cap')) gN M ws2 := (HS7.out.alloc _).kept (hp2.block gN (HS7.out.alloc _).lt (by omega) (hNS8.not_set (HS7.out.alloc _)))
                      have hsb : SetAt (w8.setCell ⟨b10, 0, none⟩ (.slice (some ⟨g, 0, none⟩) (nd.length + 1) cap')) gB M ws := (HB7.out.alloc _).kept (hp2.block gB (HB7.out.alloc _).lt (by omega) (hNS8.not_set (HB7.out.alloc _)))
                      have hm9 := hM8.trans hp2
                      have hd2 : s.nd ++ ndR l bey (outRow l xv l.length) (q + 1) = nd ++ [(i : Int)] := by rw [HDN2.out]; simp only [and_self, if_true]; rw [← List.append_assoc, HND.out]
                      have hd3 : nd.length + 1 = (nd ++ [(i : Int)]).length := by simp
                      rw [hd3] at hp1 hm9 hsn hsb ⊢
                      obtain ⟨nd2, hnd2⟩ : ∃ nd2, nd ++ [(i : Int)] = nd2 := ⟨_, rfl⟩
                      rw [hnd2] at hp1 hm9 hsn hsb hd2 ⊢
                      have HD2 := Lib.hid hd2
                      have HP1 := Lib.hid hp1
                      have HM9 := Lib.hid hm9
                      have HSN := Lib.hid hsn
                      have HSB := Lib.hid hsb
                      clear hp1 hp2 hm9 hsn hsb hd2 hd3 hnd2 hown8 hlt8 htwo8 hgr8 hne0 hNS8 hM8 c10' f10'
                      gi_wp2
                      go_roundw
                      case rel => exact ⟨q + 1, ws2, _, _, hlt, by go_num, HSN, HSB, HNEW, Lib.hid (by rw [HD2.out]; exact HP1.out), Lib.hid (by rw [HD2.out]; exact HM9.out)⟩
                      case measure => simp [intOf]; omega
                · have hql : q = (outRow l xv l.length).length := by omega
                  subst hql
                  rw [List.take_length] at hNx
                  have hjn := join_set gN gB M ws' ws wr hN6.out hB6.out (fun e => hgBn e.symm) (by omega)
                  have HJN := Lib.hid hjn
                  clear hjn
                  gi_wp2
                  refine ⟨trivial, CallsIn.inRound l0 (callsIn_wide.2 (HJN.out.mono ?_))⟩
                  rintro e w7 ⟨ws2, rfl, hs7, hb7, hg7⟩
                  have hM7 := hM6.out.fresh hg7 hgN1
                  have hNS7 := hNS6.out.fresh hg7 (by omega) (hNS6.out.not_set hN6.out)
                  rw [← HND.out] at hNS7 hM7
                  have hlow7 := hM7.low HNS.out q6 hWs
                  have c9' := (World.cell?_of_block (a := ⟨b9, 0, none⟩) (hlow7 b9 (by omega) (by omega))).trans y9
                  rw [HMN.out] at hs7
                  rw [← HBEY.out] at hNS7 hBit hM7
                  obtain ⟨w8, hr8, hk8, hq8, hI8⟩ := HI.out.next HNS.out hM7 hNS7 hs7 (fun j hj => by rw [hb7 j (by have := HMN.out; omega), hNx.out j hj, hBit.out j hj]) HOK.out hN hxv h0 q6 (by omega) (by omega) (by omega) hml hgN1
                  rw [← HMN.out] at hr8
                  have HK8 := Lib.hid hk8
                  have HQ8 := Lib.hid hq8
                  have HI8 := Lib.hid hI8
                  clear hs7 hb7 hg7 hM7 hNS7 hlow7 hk8 hq8 hI8 HJN
                  gi_wp2
                  have hnn : w3.heap.size = n₁ := by omega
                  rw [hnn]
                  refine ⟨HK8.out, HQ8.out, ?_⟩
                  show MemI N n₁ b10 mb w3 ((pre ++ [x]).foldl (fun s x => stp l s x.1.2) st0) (pre ++ [x]).length w8
                  rw [HFO.out, List.length_append]
                  exact HI8.out
        · have hlow6 := hM6.out.low HNS.out q6 hWs
          have c8 := (World.cell?_of_block (a := ⟨b8, 0, none⟩) (hlow6 b8 (by omega) (by omega))).trans y8
          have cr8 := (World.cell?_of_block (a := ⟨rb, ro + xv, none⟩) (hlow6 rb (by omega) (by omega))).trans hcr
          have hMI : MapI M N n₁ mb pre.length s.rc W := HMN.out ▸ HI.out.map
          have HMI := Lib.hid hMI
          clear hMI hlow6
          gi_wp2
          gi_loopw [58] (fun i wr => ∃ (q : Nat) (ws : List Nat), q ≤ (outRow l xv l.length).length ∧ i = .int .i64 q ∧ Hid (SetAt wr gB M ws) ∧ Hid (SetAt wr gN M (List.replicate M 0)) ∧ Hid (∀ j, j < N → sbit ws j = beyB l s.rc ((outRow l xv l.length).take q) j) ∧ Hid (NS wr b10 v0 s.nd) ∧ Hid (Moves W wr b10 v0 v0)) (fun i _ => (outRow l xv l.length).length - (intOf i).toNat)
          case atStart => exact ⟨0, _, Nat.zero_le _, rfl, hB6, hN6, Lib.hid fun j _ => by rw [sbit_zero]; simp [beyB], hNS6, hM6⟩
          case round =>
            clear hB6 hN6 hM6 hNS6 c8 cr8
            obtain ⟨q, ws, hq, rfl, hB6, hN6, hBit, hNS6, hM6⟩ := hrel
            have hlow := hM6.out.low HNS.out q6 hWs
            have c3' := (World.cell?_of_block (a := ⟨b3, 0, none⟩) (hlow b3 (by omega) (by omega))).trans y3
            have c8 := (World.cell?_of_block (a := ⟨b8, 0, none⟩) (hlow b8 (by omega) (by omega))).trans y8
            have c9 := (World.cell?_of_block (a := ⟨b9, 0, none⟩) (hlow b9 (by omega) (by omega))).trans y9
            have cr8 := (World.cell?_of_block (a := ⟨rb, ro + xv, none⟩) (hlow rb (by omega) (by omega))).trans hcr
            by_cases hlt : q < (outRow l xv l.length).length
            · have hrkr : RK .i64 wr b8 Ar (outRow l xv l.length) := HRK.out.keep fun p hp => World.cell?_of_block (hlow p.block (by omega) (by omega))
              have hcr2 : RE wr b8 A l := HCW.out.keep fun p hp => World.cell?_of_block (hlow p.block (by omega) (by omega))
              obtain ⟨pb, po, i, rfl, hpb, hi, hci⟩ := hrkr.at_ (Below.refl b8 wr) hlt
              obtain ⟨i, rfl, hil, hif⟩ := mem_outRow (List.mem_of_getElem? hi.out)
              obtain ⟨eb, eo, f, t, kk, rfl, heb, he, he1, he2, he3⟩ := hcr2.at_ (Below.refl b8 wr) hil
              have heg : eg l i = ⟨f, t, kk⟩ := by simp [eg, List.getD, he.out]
              have hmem := HOK.out _ (List.mem_of_getElem? he.out)
              simp only at hmem
              obtain ⟨t, rfl⟩ := Int.eq_ofNat_of_zero_le hmem.2.1
              have htN : t < N := by have := hmem.2.2; omega
              have htg : tg l (i : Int) = t := by simp [tg, heg]
              have hbn := fun j => beyB_next (l := l) (rc := s.rc) hi.out j
              rw [htg] at hbn
              have hMIr := HMI.out.look_moved (hM6.out.none_ (grown_drew _ none)) HNS.out q6 hWs (by omega) (by omega) (by omega) hN htN
              have HBN := Lib.hid hbn
              have i3 : (0 : Int) ≤ (q : Int) := by omega
              have i4 : (q : Int) < ((outRow l xv l.length).length : Int) := by omega
              have i5 : (0 : Int) ≤ (i : Int) := by omega
              have i6 : (i : Int) < (l.length : Int) := by omega
              rcases hMIr with ⟨hnone, v, hlk⟩ | ⟨fs, g, us, hsome, hlk, hg1, hg2, hsu, hfu⟩
              · clear hbn htg heg hmem he hif hrkr hcr2 hlow hcr he3
                gi_wp2
                refine region_in_round l0 _ hmx (by kernel_rfl) (by rintro ⟨a, w, h⟩; exact h) (S := fun W' => W' = wr.drew) rfl (fun hHeld => ?_)
                refine wpAnyH_take (i := 0) (oi := _) (v := ?vg0) rfl (by kernel_rfl) (by kernel_rfl) (by kernel_rfl) (fun _ _ _ h => h) (Or.inl ⟨by rfl, ?hyg0⟩) rfl ?restg0
                case hyg0 => ((intro w hSw; (try dsimp only at hSw); subst hSw; go_simp); (try with_reducible rfl))
                (try simp only [Act.put, Array.getInternal_eq_getElem, List.getElem_toArray, List.getElem_cons_zero, List.getElem_cons_succ, List.setIfInBounds_toArray, List.set_cons_zero, List.set_cons_succ])
                refine wpAnyH_take (i := 1) (oi := _) (v := ?vg1) rfl (by kernel_rfl) (by kernel_rfl) (by kernel_rfl) (fun _ _ _ h => h) (Or.inl ⟨by rfl, ?hyg1⟩) rfl ?restg1
                case hyg1 => ((intro w hSw; (try dsimp only at hSw); subst hSw; go_simp); (try with_reducible rfl))
                (try simp only [Act.put, Array.getInternal_eq_getElem, List.getElem_toArray, List.getElem_cons_zero, List.getElem_cons_succ, List.setIfInBounds_toArray, List.set_cons_zero, List.set_cons_succ])
                refine wpAnyH_take (i := 2) (oi := _) (v := ?vg2) rfl (by kernel_rfl) (by kernel_rfl) (by kernel_rfl) (fun _ _ _ h => h) (Or.inl ⟨by rfl, ?hyg2⟩) rfl ?restg2
                case hyg2 => ((intro w hSw; (try dsimp only at hSw); subst hSw; go_simp); (try with_reducible rfl))
                (try simp only [Act.put, Array.getInternal_eq_getElem, List.getElem_toArray, List.getElem_cons_zero, List.getElem_cons_succ, List.setIfInBounds_toArray, List.set_cons_zero, List.set_cons_succ])
                refine wpAnyH_take (i := 3) (oi := _) (v := ?vg3) rfl (by kernel_rfl) (by kernel_rfl) (by kernel_rfl) (fun _ _ _ h => h) (Or.inl ⟨by rfl, ?hyg3⟩) rfl ?restg3
                case hyg3 => ((intro w hSw; (try dsimp only at hSw); subst hSw; go_simp); (try with_reducible rfl))
                (try simp only [Act.put, Array.getInternal_eq_getElem, List.getElem_toArray, List.getElem_cons_zero, List.getElem_cons_succ, List.setIfInBounds_toArray, List.set_cons_zero, List.set_cons_succ])
                refine wpAnyH_take (i := 4) (oi := _) (v := ?vg4) rfl (by kernel_rfl) (by kernel_rfl) (by kernel_rfl) (fun _ _ _ h => h) (Or.inl ⟨by rfl, ?hyg4⟩) rfl ?restg4
                case hyg4 => ((intro w hSw; (try dsimp only at hSw); subst hSw; go_simp); (try with_reducible rfl))
                (try simp only [Act.put, Array.getInternal_eq_getElem, List.getElem_toArray, List.getElem_cons_zero, List.getElem_cons_succ, List.setIfInBounds_toArray, List.set_cons_zero, List.set_cons_succ])
                refine wpAnyH_take (i := 5) (oi := _) (v := ?vg5) rfl (by kernel_rfl) (by kernel_rfl) (by kernel_rfl) (fun _ _ _ h => h) (Or.inl ⟨by rfl, ?hyg5⟩) rfl ?restg5
                case hyg5 => ((intro w hSw; (try dsimp only at hSw); subst hSw; go_simp); (try with_reducible rfl))
                (try simp only [Act.put, Array.getInternal_eq_getElem, List.getElem_toArray, List.getElem_cons_zero, List.getElem_cons_succ, List.setIfInBounds_toArray, List.set_cons_zero, List.set_cons_succ])
                refine wpAnyH_take (i := 6) (oi := _) (v := ?vg6) rfl (by kernel_rfl) (by kernel_rfl) (by kernel_rfl) (fun _ _ _ h => h) (Or.inl ⟨by rfl, ?hyg6⟩) rfl ?restg6
                case hyg6 => ((intro w hSw; (try dsimp only at hSw); subst hSw; go_simp); (try with_reducible rfl))
                (try simp only [Act.put, Array.getInternal_eq_getElem, List.getElem_toArray, List.getElem_cons_zero, List.getElem_cons_succ, List.setIfInBounds_toArray, List.set_cons_zero, List.set_cons_succ])
                refine wpAnyH_take (i := 7) (oi := _) (v := ?vg7) rfl (by kernel_rfl) (by kernel_rfl) (by kernel_rfl) (fun _ _ _ h => h) (Or.inl ⟨by rfl, ?hyg7⟩) rfl ?restg7
                case hyg7 => ((intro w hSw; (try dsimp only at hSw); subst hSw; go_simp); (try with_reducible rfl))
                (try simp only [Act.put, Array.getInternal_eq_getElem, List.getElem_toArray, List.getElem_cons_zero, List.getElem_cons_succ, List.setIfInBounds_toArray, List.set_cons_zero, List.set_cons_succ])
                refine wpAnyH_take (i := 8) (oi := _) (v := ?vg8) rfl (by kernel_rfl) (by kernel_rfl) (by kernel_rfl) (fun _ _ _ h => h) (Or.inl ⟨by rfl, ?hyg8⟩) rfl ?restg8
                case hyg8 => ((intro w hSw; (try dsimp only at hSw); subst hSw; go_simp); (try with_reducible rfl))
                (try simp only [Act.put, Array.getInternal_eq_getElem, List.getElem_toArray, List.getElem_cons_zero, List.getElem_cons_succ, List.setIfInBounds_toArray, List.set_cons_zero, List.set_cons_succ])
                refine wpAnyH_take (i := 9) (oi := _) (v := ?vg9) rfl (by kernel_rfl) (by kernel_rfl) (by kernel_rfl) (fun _ _ _ h => h) (Or.inl ⟨by rfl, ?hyg9⟩) rfl ?restg9
                case hyg9 => ((intro w hSw; (try dsimp only at hSw); subst hSw; go_simp); (try with_reducible rfl))
                (try simp only [Act.put, Array.getInternal_eq_getElem, List.getElem_toArray, List.getElem_cons_zero, List.getElem_cons_succ, List.setIfInBounds_toArray, List.set_cons_zero, List.set_cons_succ])
                refine wpAnyH_take (i := 10) (oi := _) (v := ?vg10) rfl (by kernel_rfl) (by kernel_rfl) (by kernel_rfl) (fun _ _ _ h => h) (Or.inl ⟨by rfl, ?hyg10⟩) rfl ?restg10
                case hyg10 => ((intro w hSw; (try dsimp only at hSw); subst hSw; go_simp); (try with_reducible rfl))
                (try simp only [Act.put, Array.getInternal_eq_getElem, List.getElem_toArray, List.getElem_cons_zero, List.getElem_cons_succ, List.setIfInBounds_toArray, List.set_cons_zero, List.set_cons_succ])
                refine wpAnyH_take (i := 11) (oi := _) (v := ?vg11) rfl (by kernel_rfl) (by kernel_rfl) (by kernel_rfl) (fun _ _ _ h => h) (Or.inl ⟨by rfl, ?hyg11⟩) rfl ?restg11
                case hyg11 => ((intro w hSw; (try dsimp only at hSw); subst hSw; go_simp); (try with_reducible rfl))
                (try simp only [Act.put, Array.getInternal_eq_getElem, List.getElem_toArray, List.getElem_cons_zero, List.getElem_cons_succ, List.setIfInBounds_toArray, List.set_cons_zero, List.set_cons_succ])
                refine wpAnyH_done (by kernel_rfl) ?_ _
                gi_wp2
                go_roundw
                case rel => exact ⟨q + 1, ws, hlt, by go_num, Lib.hid ⟨hB6.out.own, hB6.out.small⟩, Lib.hid ⟨hN6.out.own, hN6.out.small⟩, Lib.hid fun j hj => by rw [HBN.out j, hnone, hBit.out j hj]; simp, Lib.hid hNS6.out.drew, Lib.hid (hM6.out.none_ (grown_drew _ none))⟩
                case measure => simp [intOf]; omega
              · clear hbn htg heg hmem he hif hrkr hcr2 hlow hcr he3
                have hjn := join_set gB g M ws us wr.drew ⟨hB6.out.own, hB6.out.small⟩ hsu (by omega) (by omega)
                have HJN := Lib.hid hjn
                have HFU := Lib.hid hfu
                have hgBg : gB < wr.heap.size := hB6.out.lt
                clear hjn hsu hfu
                gi_wp2
                refine region_in_round l0 _ hmx (by kernel_rfl) (by rintro ⟨a, w, h⟩; exact h) (S := fun W' => W' = wr.drew) rfl (fun hHeld => ?_)
                refine wpAnyH_take (i := 0) (oi := _) (v := ?vh0) rfl (by kernel_rfl) (by kernel_rfl) (by kernel_rfl) (fun _ _ _ h => h) (Or.inl ⟨by rfl, ?hyh0⟩) rfl ?resth0
                case hyh0 => ((intro w hSw; (try dsimp only at hSw); subst hSw; go_simp); (try with_reducible rfl))
                (try simp only [Act.put, Array.getInternal_eq_getElem, List.getElem_toArray, List.getElem_cons_zero, List.getElem_cons_succ, List.setIfInBounds_toArray, List.set_cons_zero, List.set_cons_succ])
                refine wpAnyH_take (i := 1) (oi := _) (v := ?vh1) rfl (by kernel_rfl) (by kernel_rfl) (by kernel_rfl) (fun _ _ _ h => h) (Or.inl ⟨by rfl, ?hyh1⟩) rfl ?resth1
                case hyh1 => ((intro w hSw; (try dsimp only at hSw); subst hSw; go_simp); (try with_reducible rfl))
                (try simp only [Act.put, Array.getInternal_eq_getElem, List.getElem_toArray, List.getElem_cons_zero, List.getElem_cons_succ, List.setIfInBounds_toArray, List.set_cons_zero, List.set_cons_succ])
                refine wpAnyH_take (i := 2) (oi := _) (v := ?vh2) rfl (by kernel_rfl) (by kernel_rfl) (by kernel_rfl) (fun _ _ _ h => h) (Or.inl ⟨by rfl, ?hyh2⟩) rfl ?resth2
                case hyh2 => ((intro w hSw; (try dsimp only at hSw); subst hSw; go_simp); (try with_reducible rfl))
                (try simp only [Act.put, Array.getInternal_eq_getElem, List.getElem_toArray, List.getElem_cons_zero, List.getElem_cons_succ, List.setIfInBounds_toArray, List.set_cons_zero, List.set_cons_succ])
                refine wpAnyH_take (i := 3) (oi := _) (v := ?vh3) rfl (by kernel_rfl) (by kernel_rfl) (by kernel_rfl) (fun _ _ _ h => h) (Or.inl ⟨by rfl, ?hyh3⟩) rfl ?resth3
                case hyh3 => ((intro w hSw; (try dsimp only at hSw); subst hSw; go_simp); (try with_reducible rfl))
                (try simp only [Act.put, Array.getInternal_eq_getElem, List.getElem_toArray, List.getElem_cons_zero, List.getElem_cons_succ, List.setIfInBounds_toArray, List.set_cons_zero, List.set_cons_succ])
                refine wpAnyH_take (i := 4) (oi := _) (v := ?vh4) rfl (by kernel_rfl) (by kernel_rfl) (by kernel_rfl) (fun _ _ _ h => h) (Or.inl ⟨by rfl, ?hyh4⟩) rfl ?resth4
                case hyh4 => ((intro w hSw; (try dsimp only at hSw); subst hSw; go_simp); (try with_reducible rfl))
                (try simp only [Act.put, Array.getInternal_eq_getElem, List.getElem_toArray, List.getElem_cons_zero, List.getElem_cons_succ, List.setIfInBounds_toArray, List.set_cons_zero, List.set_cons_succ])
                refine wpAnyH_take (i := 5) (oi := _) (v := ?vh5) rfl (by kernel_rfl) (by kernel_rfl) (by kernel_rfl) (fun _ _ _ h => h) (Or.inl ⟨by rfl, ?hyh5⟩) rfl ?resth5
                case hyh5 => ((intro w hSw; (try dsimp only at hSw); subst hSw; go_simp); (try with_reducible rfl))
                (try simp only [Act.put, Array.getInternal_eq_getElem, List.getElem_toArray, List.getElem_cons_zero, List.getElem_cons_succ, List.setIfInBounds_toArray, List.set_cons_zero, List.set_cons_succ])
                refine wpAnyH_take (i := 6) (oi := _) (v := ?vh6) rfl (by kernel_rfl) (by kernel_rfl) (by kernel_rfl) (fun _ _ _ h => h) (Or.inl ⟨by rfl, ?hyh6⟩) rfl ?resth6
                case hyh6 => ((intro w hSw; (try dsimp only at hSw); subst hSw; go_simp); (try with_reducible rfl))
                (try simp only [Act.put, Array.getInternal_eq_getElem, List.getElem_toArray, List.getElem_cons_zero, List.getElem_cons_succ, List.setIfInBounds_toArray, List.set_cons_zero, List.set_cons_succ])
                refine wpAnyH_take (i := 7) (oi := _) (v := ?vh7) rfl (by kernel_rfl) (by kernel_rfl) (by kernel_rfl) (fun _ _ _ h => h) (Or.inl ⟨by rfl, ?hyh7⟩) rfl ?resth7
                case hyh7 => ((intro w hSw; (try dsimp only at hSw); subst hSw; go_simp); (try with_reducible rfl))
                (try simp only [Act.put, Array.getInternal_eq_getElem, List.getElem_toArray, List.getElem_cons_zero, List.getElem_cons_succ, List.setIfInBounds_toArray, List.set_cons_zero, List.set_cons_succ])
                refine wpAnyH_take (i := 8) (oi := _) (v := ?vh8) rfl (by kernel_rfl) (by kernel_rfl) (by kernel_rfl) (fun _ _ _ h => h) (Or.inl ⟨by rfl, ?hyh8⟩) rfl ?resth8
                case hyh8 => ((intro w hSw; (try dsimp only at hSw); subst hSw; go_simp); (try with_reducible rfl))
                (try simp only [Act.put, Array.getInternal_eq_getElem, List.getElem_toArray, List.getElem_cons_zero, List.getElem_cons_succ, List.setIfInBounds_toArray, List.set_cons_zero, List.set_cons_succ])
                refine wpAnyH_take (i := 9) (oi := _) (v := ?vh9) rfl (by kernel_rfl) (by kernel_rfl) (by kernel_rfl) (fun _ _ _ h => h) (Or.inl ⟨by rfl, ?hyh9⟩) rfl ?resth9
                case hyh9 => ((intro w hSw; (try dsimp only at hSw); subst hSw; go_simp); (try with_reducible rfl))
                (try simp only [Act.put, Array.getInternal_eq_getElem, List.getElem_toArray, List.getElem_cons_zero, List.getElem_cons_succ, List.setIfInBounds_toArray, List.set_cons_zero, List.set_cons_succ])
                refine wpAnyH_take (i := 10) (oi := _) (v := ?vh10) rfl (by kernel_rfl) (by kernel_rfl) (by kernel_rfl) (fun _ _ _ h => h) (Or.inl ⟨by rfl, ?hyh10⟩) rfl ?resth10
                case hyh10 => ((intro w hSw; (try dsimp only at hSw); subst hSw; go_simp); (try with_reducible rfl))
                (try simp only [Act.put, Array.getInternal_eq_getElem, List.getElem_toArray, List.getElem_cons_zero, List.getElem_cons_succ, List.setIfInBounds_toArray, List.set_cons_zero, List.set_cons_succ])
                refine wpAnyH_take (i := 11) (oi := _) (v := ?vh11) rfl (by kernel_rfl) (by kernel_rfl) (by kernel_rfl) (fun _ _ _ h => h) (Or.inl ⟨by rfl, ?hyh11⟩) rfl ?resth11
                case hyh11 => ((intro w hSw; (try dsimp only at hSw); subst hSw; go_simp); (try with_reducible rfl))
                (try simp only [Act.put, Array.getInternal_eq_getElem, List.getElem_toArray, List.getElem_cons_zero, List.getElem_cons_succ, List.setIfInBounds_toArray, List.set_cons_zero, List.set_cons_succ])
                refine wpAnyH_done (by kernel_rfl) ?_ _
                gi_wp2
                refine ⟨trivial, CallsIn.inRound l0 (callsIn_wide.2 (HJN.out.mono ?_))⟩
                rintro e w7 ⟨ws', rfl, hs7, hb7, hg7⟩
                have hM7 := (hM6.out.none_ (grown_drew _ none)).fresh hg7 hgB1
                have hN7 : SetAt w7 gN M (List.replicate M 0) := SetAt.kept ⟨hN6.out.own, hN6.out.small⟩ (hg7.block gN hN6.out.lt (fun e => by injection e with e; omega))
                have hNS7 := hNS6.out.drew.fresh hg7 (by omega) (fun e => by have := (HNS.out.2.lt gB e).2; omega)
                have HNS7 := Lib.hid hNS7
                clear hNS7
                have HS7 := Lib.hid hs7
                have HB7 := Lib.hid hb7
                have HM7 := Lib.hid hM7
                have HN7 := Lib.hid hN7
                clear hs7 hb7 hg7 hM7 hN7 HJN
                gi_wp2
                go_roundw
                case rel => exact ⟨q + 1, ws', hlt, by go_num, HS7, HN7, Lib.hid fun j hj => by rw [HB7.out j (by have := HMN.out; omega), HBN.out j, hsome, hBit.out j hj, HFU.out j hj], HNS7, HM7⟩
                case measure => simp [intOf]; omega
            · have hql : q = (outRow l xv l.length).length := by omega
              subst hql
              rw [List.take_length] at hBit
              obtain ⟨bey, hbey⟩ : ∃ bey, beyB l s.rc (outRow l xv l.length) = bey := ⟨_, rfl⟩
              rw [hbey] at hBit
              have HBEY := Lib.hid hbey
              have hndl := HI.out.len
              have hrl := nx_len (x := xv) HOK.out
              have HRL := Lib.hid hrl
              obtain ⟨Av, cv, hv0⟩ := own_shape HNS.out.2
              clear hbey hrl hcr
              gi_wp2
              gi_loopw [82] (fun i wr => ∃ (q : Nat) (ws' : List Nat) (Av : Option Addr) (cv : Nat), q ≤ (outRow l xv l.length).length ∧ i = .int .i64 q ∧ Hid (SetAt wr gN M ws') ∧ Hid (SetAt wr gB M ws) ∧ Hid (∀ j, j < N → sbit ws' j = nxB l ((outRow l xv l.length).take q) j) ∧ Hid (NS wr b10 (.slice Av (s.nd ++ ndR l bey (outRow l xv l.length) q).length cv) (s.nd ++ ndR l bey (outRow l xv l.length) q)) ∧ Hid (Moves W wr b10 v0 (.slice Av (s.nd ++ ndR l bey (outRow l xv l.length) q).length cv))) (fun i _ => (outRow l xv l.length).length - (intOf i).toNat)
              case atStart =>
                refine ⟨0, _, Av, cv, Nat.zero_le _, rfl, hN6, hB6, Lib.hid fun j _ => by rw [sbit_zero]; simp [nxB], Lib.hid ?_, Lib.hid ?_⟩
                · simp only [ndR, List.append_nil]
                  rw [← hv0]
                  exact hNS6.out
                · simp only [ndR, List.append_nil]
                  rw [← hv0]
                  exact hM6.out
              case round =>
                clear hB6 hN6 hM6 hNS6 hlow c3' c8 c9 cr8 hv0 Av cv
                obtain ⟨q, ws', Av, cv, hq, rfl, hN6, hB6, hNx, hNS6, hM6⟩ := hrel
                have hlow := hM6.out.low HNS.out q6 hWs
                have c3' := (World.cell?_of_block (a := ⟨b3, 0, none⟩) (hlow b3 (by omega) (by omega))).trans y3
                have hlen6 := ndR_len (b := bey) HRL.out q
                obtain ⟨nd, hnd⟩ : ∃ nd, s.nd ++ ndR l bey (outRow l xv l.length) q = nd := ⟨_, rfl⟩
                have hndl2 : nd.length ≤ 4295032832 := by rw [← hnd, List.length_append]; omega
                rw [hnd] at hNS6 hM6
                have HND := Lib.hid hnd
                have c10 := hNS6.out.cell
                have f10 := frozen_of_row wr b10 0 _ 31 hNS6.out.1
                clear hnd hlen6
                by_cases hlt : q < (outRow l xv l.length).length
                · have hrkr : RK .i64 wr b8 Ar (outRow l xv l.length) := HRK.out.keep fun p hp => World.cell?_of_block (hlow p.block (by omega) (by omega))
                  have hcr2 : RE wr b8 A l := HCW.out.keep fun p hp => World.cell?_of_block (hlow p.block (by omega) (by omega))
                  obtain ⟨pb, po, i, rfl, hpb, hi, hci⟩ := hrkr.at_ (Below.refl b8 wr) hlt
                  obtain ⟨i, rfl, hil, hif⟩ := mem_outRow (List.mem_of_getElem? hi.out)
                  obtain ⟨eb, eo, f, t, kk, rfl, heb, he, he1, he2, he3⟩ := hcr2.at_ (Below.refl b8 wr) hil
                  have heg : eg l i = ⟨f, t, kk⟩ := by simp [eg, List.getD, he.out]
                  have hmem := HOK.out _ (List.mem_of_getElem? he.out)
                  simp only at hmem
                  obtain ⟨t, rfl⟩ := Int.eq_ofNat_of_zero_le hmem.2.1
                  have htN : t < N := by have := hmem.2.2; omega
                  have htg : tg l (i : Int) = t := by simp [tg, heg]
                  have hnn := fun j => nxB_next (l := l) hi.out j
                  have hdn := ndR_next (l := l) (b := bey) hi.out
                  rw [htg] at hnn hdn
                  have HNN := Lib.hid hnn
                  have HDN := Lib.hid hdn
                  have hM0 := HMN.out
                  have htM : t / 64 < M := by omega
                  have hhas := has_set gN M t ws' wr hN6.out (by omega) htM
                  have hadd := add_set gN M t ws' wr hN6.out (by omega) htM
                  have hnx1 := hNx.out t htN
                  have HADD := Lib.hid hadd
                  have i3 : (0 : Int) ≤ (q : Int) := by omega
                  have i4 : (q : Int) < ((outRow l xv l.length).length : Int) := by omega
                  have i5 : (0 : Int) ≤ (i : Int) := by omega
                  have i6 : (i : Int) < (l.length : Int) := by omega
                  obtain ⟨s1, hs1⟩ : ∃ s1, sbit ws' t = s1 := ⟨_, rfl⟩
                  rw [hs1] at hhas hnx1
                  have HHAS := Lib.hid hhas
                  have HNX1 := Lib.hid hnx1
                  have HS1 := Lib.hid hs1
                  clear hadd hnx1 hM0 hnn hdn htg heg hmem he hif hi hrkr hcr2 he3 hhas hs1
                  cases s1 with
                  | true =>
                    gi_wp2
                    refine ⟨trivial, CallsIn.inRound l0 (callsIn_wide.2 (HHAS.out.mono ?_))⟩
                    rintro e wr ⟨rfl, rfl⟩
                    gi_wp2
                    go_roundw
                    case rel =>
                      have hd2 : ndR l bey (outRow l xv l.length) (q + 1) = ndR l bey (outRow l xv l.length) q := by rw [HDN.out, ← HNX1.out]; simp
                      refine ⟨q + 1, ws', Av, cv, hlt, by go_num, hN6, hB6, Lib.hid fun j hj => ?_, Lib.hid (by rw [hd2, HND.out]; exact hNS6.out), Lib.hid (by rw [hd2, HND.out]; exact hM6.out)⟩
                      rw [HNN.out j, hNx.out j hj]
                      by_cases e : t = j
                      · subst e; rw [← HNX1.out]; simp
                      · simp [e]
                    case measure => simp [intOf]; omega
                  | false =>
                    gi_wp2
                    refine ⟨trivial, CallsIn.inRound l0 (callsIn_wide.2 (HHAS.out.mono ?_))⟩
                    rintro e wr ⟨rfl, rfl⟩
                    gi_wp2
                    refine ⟨trivial, CallsIn.inRound l0 (callsIn_wide.2 (HADD.out.mono ?_))⟩
                    rintro e w7 ⟨ws2, rfl, hs7, hb7, hg7⟩
                    have hB7 : SetAt w7 gB M ws := hB6.out.kept (hg7.block gB hB6.out.lt (fun e => by injection e with e; exact hgBn e))
                    have hM7 := hM6.out.fresh hg7 hgN1
                    have hNS7 := hNS6.out.fresh hg7 (by omega) (hNS6.out.not_set hN6.out)
                    have hhas2 := has_set gB M t ws w7 hB7 (by omega) htM
                    rw [hBit.out t htN] at hhas2
                    have hnew : ∀ j, j < N → sbit ws2 j = nxB l ((outRow l xv l.length).take (q + 1)) j := by
                      intro j hj
                      rw [hb7 j, HNN.out j, hNx.out j hj]
                      congr 1
                      exact decide_eq_decide.2 ⟨fun e => e.symm, fun e => e.symm⟩
                    have c10' := hNS7.cell
                    have f10' := frozen_of_row w7 b10 0 _ 31 hNS7.1
                    obtain ⟨s2, hs2⟩ : ∃ s2, bey t = s2 := ⟨_, rfl⟩
                    rw [hs2] at hhas2
                    have HHAS2 := Lib.hid hhas2
                    have HS2 := Lib.hid hs2
                    have HS7 := Lib.hid hs7
                    have HB7 := Lib.hid hB7
                    have HM7 := Lib.hid hM7
                    have HNS7 := Lib.hid hNS7
                    have HNEW := Lib.hid hnew
                    have hdn2 := HDN.out
                    rw [← HNX1.out, hs2] at hdn2
                    have HDN2 := Lib.hid hdn2
                    clear hs7 hb7 hg7 hB7 hM7 hNS7 hhas2 hnew hs2 hdn2 HDN HNN HADD HHAS c10 f10 c3'
                    cases s2 with
                    | true =>
                      gi_wp2
                      refine ⟨trivial, CallsIn.inRound l0 (callsIn_wide.2 (HHAS2.out.mono ?_))⟩
                      rintro e w7 ⟨rfl, rfl⟩
                      gi_wp2
                      go_roundw
                      case rel =>
                        have hd2 : ndR l bey (outRow l xv l.length) (q + 1) = ndR l bey (outRow l xv l.length) q := by rw [HDN2.out]; simp
                        exact ⟨q + 1, ws2, Av, cv, hlt, by go_num, HS7, HB7, HNEW, Lib.hid (by rw [hd2, HND.out]; exact HNS7.out), Lib.hid (by rw [hd2, HND.out]; exact HM7.out)⟩
                      case measure => simp [intOf]; omega
                    | false =>
                      gi_wp2
                      refine ⟨trivial, CallsIn.inRound l0 (callsIn_wide.2 (HHAS2.out.mono ?_))⟩
                      rintro e w7 ⟨rfl, rfl⟩
                      gi_wp2_with (gi_at_builtin; refine halt_ ?_)
                      refine Halt_.go ?_
                      have hNS8 := HNS7.out.alloc (.cells #[.int .i64 (i : Int)] 3)
                      have hM8 := HM7.out.none_ (World.grownBy_alloc w7 (.cells #[.int .i64 (i : Int)] 3) none)
                      refine wlIn_append_two _ l0 _ (by rfl) (.tmp 102) (.tmp 104) 31 (by rfl) (b10 + 2) 3 _ 1 8 info3 Try.underlying31 rfl (by decide) (.slice Av nd.length cv) nd.length (ints nd) (by rfl) hNS8.2 w7.heap.size 1 [.int .i64 (i : Int)] (by rfl) (heap_at _ _ _ rfl) rfl (by simp [Value.oneCell']) (by omega) (by omega) (by have := HM7.out.size; simp; omega) ?_
                      intro g cap' w8 hown8 hlt8 htwo8
                      have hgr8 := two_grown htwo8
                      have hne0 : some b10 ≠ (Value.slice Av nd.length cv).ownBlock := fun e => hNS8.far (by omega) e.symm
                      have hq2 : w8.cell? ⟨b10, 0, none⟩ = some (.slice Av nd.length cv) := hgr8.cell hNS8.cell hne0
                      have hq3 : w8.frozen? ⟨b10, 0, none⟩ = false := grown_frozen hgr8 (by have := (Array.getElem?_eq_some_iff.1 hNS8.1).1; exact this) hne0 (frozen_of_row _ b10 0 _ 31 hNS8.1)
                      obtain ⟨hp1, hp2⟩ := hNS8.pushed rfl hgr8 hown8 (by
                        rcases htwo8 with ⟨h, _⟩ | ⟨h, _⟩
                        · exact .inl h
                        · exact .inr (Nat.le_of_eq h.symm))
                      have hsn : SetAt (w8.setCell ⟨b10, 0, none⟩ (.slice (some ⟨g, 0, none⟩) (nd.length + 1) cap')) gN M ws2 := (HS7.out.alloc _).kept (hp2.block gN (HS7.out.alloc _).lt (by omega) (hNS8.not_set (HS7.out.alloc _)))
                      have hsb : SetAt (w8.setCell ⟨b10, 0, none⟩ (.slice (some ⟨g, 0, none⟩) (nd.length + 1) cap')) gB M ws := (HB7.out.alloc _).kept (hp2.block gB (HB7.out.alloc _).lt (by omega) (hNS8.not_set (HB7.out.alloc _)))
                      have hm9 := hM8.trans hp2
                      have hd2 : s.nd ++ ndR l bey (outRow l xv l.length) (q + 1) = nd ++ [(i : Int)] := by rw [HDN2.out]; simp only [and_self, if_true]; rw [← List.append_assoc, HND.out]
                      have hd3 : nd.length + 1 = (nd ++ [(i : Int)]).length := by simp
                      rw [hd3] at hp1 hm9 hsn hsb ⊢
                      obtain ⟨nd2, hnd2⟩ : ∃ nd2, nd ++ [(i : Int)] = nd2 := ⟨_, rfl⟩
                      rw [hnd2] at hp1 hm9 hsn hsb hd2 ⊢
                      have HD2 := Lib.hid hd2
                      have HP1 := Lib.hid hp1
                      have HM9 := Lib.hid hm9
                      have HSN := Lib.hid hsn
                      have HSB := Lib.hid hsb
                      clear hp1 hp2 hm9 hsn hsb hd2 hd3 hnd2 hown8 hlt8 htwo8 hgr8 hne0 hNS8 hM8 c10' f10'
                      gi_wp2
                      go_roundw
                      case rel => exact ⟨q + 1, ws2, _, _, hlt, by go_num, HSN, HSB, HNEW, Lib.hid (by rw [HD2.out]; exact HP1.out), Lib.hid (by rw [HD2.out]; exact HM9.out)⟩
                      case measure => simp [intOf]; omega
                · have hql : q = (outRow l xv l.length).length := by omega
                  subst hql
                  rw [List.take_length] at hNx
                  have hjn := join_set gN gB M ws' ws wr hN6.out hB6.out (fun e => hgBn e.symm) (by omega)
                  have HJN := Lib.hid hjn
                  clear hjn
                  gi_wp2
                  refine ⟨trivial, CallsIn.inRound l0 (callsIn_wide.2 (HJN.out.mono ?_))⟩
                  rintro e w7 ⟨ws2, rfl, hs7, hb7, hg7⟩
                  have hM7 := hM6.out.fresh hg7 hgN1
                  have hNS7 := hNS6.out.fresh hg7 (by omega) (hNS6.out.not_set hN6.out)
                  rw [← HND.out] at hNS7 hM7
                  have hlow7 := hM7.low HNS.out q6 hWs
                  have c9' := (World.cell?_of_block (a := ⟨b9, 0, none⟩) (hlow7 b9 (by omega) (by omega))).trans y9
                  rw [HMN.out] at hs7
                  rw [← HBEY.out] at hNS7 hBit hM7
                  obtain ⟨w8, hr8, hk8, hq8, hI8⟩ := HI.out.next HNS.out hM7 hNS7 hs7 (fun j hj => by rw [hb7 j (by have := HMN.out; omega), hNx.out j hj, hBit.out j hj]) HOK.out hN hxv h0 q6 (by omega) (by omega) (by omega) hml hgN1
                  rw [← HMN.out] at hr8
                  have HK8 := Lib.hid hk8
                  have HQ8 := Lib.hid hq8
                  have HI8 := Lib.hid hI8
                  clear hs7 hb7 hg7 hM7 hNS7 hlow7 hk8 hq8 hI8 HJN
                  gi_wp2
                  have hnn : w3.heap.size = n₁ := by omega
                  rw [hnn]
                  refine ⟨HK8.out, HQ8.out, ?_⟩
                  show MemI N n₁ b10 mb w3 ((pre ++ [x]).foldl (fun s x => stp l s x.1.2) st0) (pre ++ [x]).length w8
                  rw [HFO.out, List.length_append]
                  exact HI8.out
    case done =>
      rintro D ys W hD rfl hI hK
      rw [fold_back HEL.out] at hI
      obtain ⟨v, hns⟩ := hI.need
      obtain ⟨Av, cv, rfl⟩ := own_shape hns.2
      have hlen := hI.len
      have hll : ((List.range xs.length).map el).length = xs.length := by simp
      rw [hll] at hlen
      obtain ⟨nd, hnd⟩ : ∃ nd, ((xs.reverse.map Int.toNat).foldl (stp l) st0).nd = nd := ⟨_, rfl⟩
      rw [hnd] at hns hlen
      have hndl : nd.length ≤ 4294967296 := Nat.le_trans hlen (by rw [hxN]; exact Nat.mul_le_mul_right 65536 hN)
      have hso := sort_any (b10 + 2) Av cv nd W hns.2 (by omega)
      have c10 := hns.cell
      have HSO := Lib.hid hso
      have HNS := Lib.hid hns
      have HI := Lib.hid hI
      have HND := Lib.hid hnd
      have HK := Lib.hid hK
      clear hso hns hI hnd hK hlen hll
      try rw [HND.out]
      gi_wp2
      refine ⟨trivial, callsIn_wide.2 (HSO.out.mono ?_)⟩
      rintro e w8 ⟨rfl, hown8, hg8⟩
      have c10' : w8.cell? ⟨b10, 0, none⟩ = some (.slice Av nd.length cv) := hg8.cell c10 (fun e => HNS.out.far (k := b10) (by omega) e.symm)
      have hKD : w8.heap[D]? = some (.deferred (some [])) := by
        refine (hg8.block D (Array.getElem?_eq_some_iff.1 HK.out).1 (fun e => ?_)).trans HK.out
        rcases HNS.out.2.2 with ⟨h, _⟩ | ⟨g, cap', cur, hv, _, hh, _⟩
        · rw [h] at e; cases e
        · rw [hv] at e
          injection e with e
          have e' : g = D := e.symm
          rw [e', HK.out] at hh
          cases hh
      have hbelW : Below w.heap.size w W := by
        have hb3 : Below w.heap.size w w3 := HBW.out.trans ((HB1.out.trans (HB12.out.mono hs01)).mono HBW.out.size)
        have hws := HBW.out.size
        exact ⟨HI.out.os.trans hb3.os, HI.out.tape.trans hb3.tape, HI.out.output.trans hb3.output, by have := HI.out.size; omega, fun k hk => (HI.out.kq k (by omega) (by omega) (by omega)).trans (hb3.block k hk)⟩
      have hws := HBW.out.size
      have hbel8 : Below w.heap.size w w8 := hbelW.grown hg8 (by have := hbelW.size; omega) (fun k e => by have := (HNS.out.2.lt k e).1; omega)
      have HO8 := Lib.hid hown8
      have HB8 := Lib.hid hbel8
      have HKD := Lib.hid hKD
      have hsl : nd.length = (srt nd).length := (srt_perm nd).length_eq.symm
      clear hown8 hg8 hKD hbelW hbel8 HSO
      gi_wp2
      refine ⟨by simp, .inl ⟨_, _, rfl, run_takeDeferred HKD.out, ?_⟩⟩
      have hne : ∀ k, (Value.slice Av (srt nd).length cv).ownBlock = some k → k ≠ D := by
        intro k hk e
        have h8 := HO8.out
        unfold OwnI at h8
        rcases h8.2 with ⟨h, _⟩ | ⟨g, cap', cur, hv, _, hh, _⟩
        · rw [h] at hk; cases hk
        · rw [hv] at hk
          injection hk with hk
          have e' : g = D := hk.trans e
          rw [e', HKD.out] at hh
          cases hh
      refine ⟨_, results_tmp2 rfl _ _ _, ⟨Av, cv, srt nd, 0, rfl, .inr ⟨rfl, xs, .inr ⟨HR.out, xs, by simpa using HF.out, .inr ⟨by simp; omega, rfl, rfl⟩⟩, by rw [HND.out]⟩, ?_, ?_⟩⟩
      · exact (HO8.out.base (by omega)).kept fun k hk => World.putObj_heap_other (hne k hk)
      · exact HB8.out.trans (belowK_b (w := w) (Nat.le_refl _) w8 D _ _ (by have := HBW.out.size; omega) HKD.out rfl rfl)
    case stop =>
      rintro D c pre W _ _ h _
      exact h.elim
  · gi_wp2
    have hxs0 : xs = [] := by
      rcases HS.out with ⟨_, h, _⟩ | ⟨_, o, _, ⟨_, h, _⟩ | ⟨_, _, h⟩⟩
      · exact h
      · exact h
      · exact absurd h her
    have hSS := HS.out
    rw [hxs0] at hSS
    exact ⟨_, results_tmp2 rfl _ _ _, ⟨none, 0, [], er, rfl, .inl ⟨her, hSS, rfl⟩, OwnI.nil _ _, HBW.out.trans (HB1.out.mono HBW.out.size)⟩⟩
end Go.Proofs.Ytjifpjfinffamaa
