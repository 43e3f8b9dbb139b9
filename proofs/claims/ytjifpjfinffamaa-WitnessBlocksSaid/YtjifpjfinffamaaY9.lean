/- Walk: the document's Blocks [19]. -/
import Derived.Test.YtjifpjfinffamaaY6
import Derived.Test.YtjifpjfinffamaaY7
import Derived.Test.YtjifpjfinffamaaLib4
namespace Go.Proofs.Ytjifpjfinffamaa
open Go.RowKit

/-- rows whose element types differ lie apart -/
theorem own_far {w : World} {b1 b2 e1 e2 s1 s2 n m : Nat} {u v : Value} {xs ys : List Value} (h : w.ownsRow b1 e1 s1 u n xs) (h' : w.ownsRow b2 e2 s2 v m ys) (hne : e1 ≠ e2) : Ap u v := by
  intro g h1 h2
  rcases h'.2 with ⟨rfl, _⟩ | ⟨g', cap, cur, rfl, _, hh, _⟩
  · cases h2
  · have : g' = g := Option.some.inj h2
    subst this
    exact own_ne_blk h hh hne h1
theorem OwnI.keep' {w w2 : World} {base : Nat} {A : Option Addr} {c : Nat} {xs : List Int} (h : OwnI w base A c xs) (hk : ∀ g, (Value.slice A xs.length c).ownBlock = some g → w2.heap[g]? = w.heap[g]?) : OwnI w2 base A c xs := by
  refine ⟨h.1, ?_⟩
  rcases h.2 with h2 | ⟨g, cap, cur, hv, hbg, hh, h3⟩
  · exact .inl h2
  · exact .inr ⟨g, cap, cur, hv, hbg, (hk g (by rw [hv]; rfl)).trans hh, h3⟩

def lks (lk : List Nat) : List Int := lk.map fun x : Nat => (x : Int)
theorem lks_len (lk : List Nat) : (lks lk).length = lk.length := by simp [lks]
/-- blocks and their looks, in memory of one's own -/
structure BLk (w : World) (base : Nat) (A : Option Addr) (c : Nat) (bl : List Bl) (hd : Nat → Value) (Al : Option Addr) (cl : Nat) (lk : List Nat) : Prop where
  hb : HB w base A bl.length c bl hd
  lk : OwnI w base Al cl (lks lk)
section
variable {w w2 : World} {base : Nat} {A : Option Addr} {c : Nat} {bl : List Bl} {hd : Nat → Value} {Al : Option Addr} {cl : Nat} {lk : List Nat}
theorem BLk.nil (w : World) (base : Nat) : BLk w base none 0 [] (fun _ => .slice none 0 0) none 0 [] := ⟨HB.nil _ _ _, OwnI.nil _ _⟩
theorem BLk.below {B : Nat} (h : BLk w base A c bl hd Al cl lk) (hl : w.heap.size ≤ B) (hb : Below B w w2) : BLk w2 base A c bl hd Al cl lk := ⟨h.hb.below hl hb, h.lk.below hl hb⟩
theorem BLk.base' {base' : Nat} (h : BLk w base A c bl hd Al cl lk) (hb : base' ≤ base) : BLk w base' A c bl hd Al cl lk := ⟨h.hb.base' hb, h.lk.base hb⟩
theorem BLk.push (h : BLk w base A c bl hd Al cl lk) (b : Bl) (r t : Value) {g cap B0 : Nat} (hr : OwnN w base r b.rd) (ht : OwnN w base t b.wt) (hrt : Ap r t) (h0 : ∀ i, i < 2 * bl.length → ∀ k, (hd i).ownBlock = some k → k < B0) (hr0 : ∀ k, r.ownBlock = some k → B0 ≤ k) (ht0 : ∀ k, t.ownBlock = some k → B0 ≤ k)
    (hg : w.grownBy w2 (Value.slice A bl.length c).ownBlock) (ho : w2.ownsRow base 43 9 (.slice (some ⟨g, 0, none⟩) (bl.length + 1) cap) (bl.length + 1) ((List.range (bl.length * 9)).map (bF bl hd) ++ (List.range 9).map (bcell b r t))) :
    ∃ hd', BLk w2 base (some ⟨g, 0, none⟩) cap (bl ++ [b]) hd' Al cl lk := by
  have h1 := h.hb.push b r t hr ht hrt (fun i hi k k1 k2 => by have := h0 i hi k k1; have := hr0 k k2; omega) (fun i hi k k1 k2 => by have := h0 i hi k k1; have := ht0 k k2; omega) hg ho
  have e : (bl ++ [b]).length = bl.length + 1 := by simp
  refine ⟨fun i => if i = 2 * bl.length then r else if i = 2 * bl.length + 1 then t else hd i, ⟨?_, ?_⟩⟩
  · rw [e]
    exact h1
  · exact h.lk.keep' fun k hk => hg.block k ((h.lk.lt k hk).2) fun e' => own_far h.lk h.hb.row (by decide) k hk e'.symm
theorem BLk.look (h : BLk w base A c bl hd Al cl lk) (x : Nat) {Al' : Option Addr} {cl' : Nat} (hg : w.grownBy w2 (Value.slice Al (lks lk).length cl).ownBlock) (ho : OwnI w2 base Al' cl' (lks (lk ++ [x]))) : BLk w2 base A c bl hd Al' cl' (lk ++ [x]) := by
  refine ⟨h.hb.keep (fun k hk => ?_) (fun i hi k hk => ?_), ho⟩
  · exact hg.block k ((h.hb.row.lt k hk).2) fun e' => own_far h.hb.row h.lk (by decide) k hk e'.symm
  · exact hg.block k (((h.hb.own i hi).lt k hk).2) fun e' => own_far (h.hb.own i hi) h.lk (by decide) k hk e'.symm
theorem BLk.hd_lt (h : BLk w base A c bl hd Al cl lk) : ∀ i, i < 2 * bl.length → ∀ k, (hd i).ownBlock = some k → k < w.heap.size := fun i hi k hk => ((h.hb.own i hi).lt k hk).2
end
theorem bcells (b : Bl) (r t : Value) : (List.range 9).map (bcell b r t) = [.int .i64 b.th, .int .i64 b.kind, .int .i64 (b.first : Int), .int .i64 (b.last : Int), .int .u64 b.num, .bool b.wr, .int .i64 b.err, r, t] := rfl
theorem own_one {w : World} {base e s n : Nat} {v : Value} {xs : List Value} (h : w.ownsRow base e s v n xs) : v.oneCell' = true := by
  obtain ⟨A, c, rfl⟩ := own_shape h
  rfl

set_option linter.unusedSimpArgs false in
set_option maxRecDepth 100000 in
set_option maxHeartbeats 12800000 in
theorem refBlocks_any (A : Option Addr) (cap : Nat) (l : List Ev) (w : World) (hl : l.length ≤ 1099511627776) (hc : EvR w w.heap.size A l) :
    Calls Try.prog 19 #[.slice A l.length cap] w fun e w' => ∃ bl lk Ab cb hd Al cl, e = .returned (.tuple #[.slice Ab (List.length bl) cb, .slice Al (List.length lk) cl]) ∧ BLk w' w.heap.size Ab cb bl hd Al cl lk ∧ docX l l 0 = bl.zip lk ∧ lk.length = bl.length ∧ bl.length ≤ l.length ∧ Below w.heap.size w w' := by
  have HC := Lib.hid hc
  clear hc
  obtain ⟨R, hR⟩ : ∃ R, R = docX l l 0 := ⟨_, rfl⟩
  rw [← hR]
  have HR := Lib.hid hR
  clear hR
  go_enter Try.func19, Try.ntmps19
  go_wp2
  go_loopw [6, 4, 5] (fun i va vl wr => ∃ (p : Nat) (bl : List Bl) (lk : List Nat) (Ab : Option Addr) (cb : Nat) (hd : Nat → Value) (Al : Option Addr) (cl n : Nat), p ≤ l.length ∧ n ≤ p ∧ Hid (n = bl.length ∧ n = lk.length) ∧ i = .int .i64 p ∧ va = .slice Ab n cb ∧ vl = .slice Al n cl ∧ Hid (BLk wr w.heap.size Ab cb bl hd Al cl lk) ∧ Hid (R = bl.zip lk ++ docX l (l.drop p) p) ∧ Hid (Below w.heap.size w wr)) (fun i _ _ _ => l.length - (intOf i).toNat)
  case atStart => exact ⟨0, [], [], none, 0, _, none, 0, 0, Nat.zero_le _, Nat.zero_le _, ⟨rfl, rfl⟩, rfl, rfl, rfl, Lib.hid (BLk.nil _ _), Lib.hid (by simpa using HR.out), Lib.hid (Below.refl _ _)⟩
  case round =>
    obtain ⟨p, bl, lk, Ab, cb, hd, Al, cl, n, hp, hnp, HN, rfl, rfl, rfl, HI, HX, HB⟩ := hrel
    clear HR
    by_cases hlt : p < l.length
    · obtain ⟨eb, eo, e, hA, heb, he, hwd, e0, e1, e2, e3, e4, e5⟩ := HC.out.at_ HB.out hlt
      have hst := HX.out
      rw [docX_step he.out] at hst
      have hsz := HB.out.size
      have hbk := block_any A cap l p wr hl hlt ((HC.out.below HB.out).more hsz)
      subst hA
      obtain ⟨t, k, a, x, o, er⟩ := e
      simp only at e1 hst
      have HST := Lib.hid hst
      have HBK := Lib.hid hbk
      have i1 : (0 : Int) ≤ (p : Int) := by omega
      have i2 : (p : Int) < (l.length : Int) := by omega
      clear hst hbk he HX hwd e0 e2 e3 e4 e5
      by_cases hk1 : k = 1
      · subst hk1
        have HST2 := Lib.hid (HST.out.trans (by rw [if_pos rfl]))
        clear HST
        generalize docB l p = D at *
        obtain ⟨b, look⟩ := D
        obtain ⟨th, kd, f, la, nm, bw, er', rd, wt⟩ := b
        go_wp2_with (go_at_call 63; refine halt_ ?_)
        refine Halt_.go ?_
        refine HBK.out.mono ?_
        rintro e' w1 ⟨r, t', rfl, hr, ht, hap, hb1⟩
        obtain ⟨Ar, cr, rfl⟩ := own_shape hr
        obtain ⟨At, ct, rfl⟩ := own_shape ht
        have HI1 := Lib.hid (HI.out.below (Nat.le_refl _) hb1)
        have HB1 := Lib.hid (HB.out.trans (hb1.mono hsz))
        have h0 := HI.out.hd_lt
        have hr0 := fun k hk => (OwnN.lt hr k hk).1
        have ht0 := fun k hk => (OwnN.lt ht k hk).1
        have HP := Lib.hid (And.intro h0 (And.intro hr0 (And.intro ht0 (And.intro hap (And.intro (own_base hr hsz) (own_base ht hsz))))))
        have hsz1 := HB1.out.size
        clear h0 hr0 ht0 hap hr ht hb1 HBK HI HB
        have hrow : w1.ownsRow w.heap.size 43 9 (.slice Ab n cb) n ((List.range (n * 9)).map (bF bl hd)) := by
          rw [HN.out.1]
          exact HI1.out.hb.row
        have HROW := Lib.hid hrow
        clear hrow
        go_wp2_with (at_builtin; refine halt_ ?_)
        refine Halt_.go ?_
        refine wl_append1 _ (by rfl) (.tmp 27) (.tmp 29) 27 (by rfl) w.heap.size 43 _ 9 104 info43 Try.underlying27 rfl (by decide) (.slice Ab n cb) n ((List.range (n * 9)).map (bF bl hd)) (by rfl) ((HROW.out.alloc _).alloc _) (w1.heap.size + 1) 1 [.int .i64 th, .int .i64 kd, .int .i64 (f : Int), .int .i64 (la : Int), .int .u64 nm, .bool bw, .int .i64 er', .slice Ar rd.length cr, .slice At wt.length ct] (by rfl) (heap_at _ _ _ (by simp)) rfl (by simp [Value.oneCell']) (by omega) (by omega) (by simp; omega) _ rfl ?_
        intro g2 cap2 w2 hown2 hgr0 hat0 hlt2
        have hgr := grown_trans (grown_trans (World.grownBy_alloc w1 _ _) (World.grownBy_alloc _ _ _)) hgr0
        obtain ⟨h0, hr0, ht0, hap, hr, ht⟩ := HP.out
        obtain ⟨hd2, hP⟩ := HI1.out.push ⟨th, kd, f, la, nm, bw, er', rd, wt⟩ (.slice Ar rd.length cr) (.slice At wt.length ct) (B0 := wr.heap.size) (w2 := w2) hr ht hap h0 hr0 ht0 (by rw [← HN.out.1]; exact hgr) (by rw [← HN.out.1]; exact hown2)
        have hB2 := HB1.out.grown hgr hsz1 (fun k hk => (HROW.out.lt k hk).1)
        have hlrow : w2.ownsRow w.heap.size 3 1 (.slice Al n cl) n (ints (lks lk)) := by
          have := hP.lk
          unfold OwnI at this
          rw [lks_len, ← HN.out.2] at this
          exact this
        have HI2 := Lib.hid hP
        have HB2 := Lib.hid hB2
        have HLROW := Lib.hid hlrow
        have hsz2 := hB2.size
        clear hP hB2 hlrow hown2 hgr0 hat0 hlt2 hgr h0 hr0 ht0 hap hr ht HP HI1 HB1 HROW
        go_wp2_with (at_builtin; refine halt_ ?_)
        refine Halt_.go ?_
        refine wl_append1 _ (by rfl) (.tmp 31) (.tmp 33) 31 (by rfl) w.heap.size 3 _ 1 8 info3 Try.underlying31 rfl (by decide) (.slice Al n cl) n (ints (lks lk)) (by rfl) (HLROW.out.alloc _) w2.heap.size 1 [.int .i64 (look : Int)] (by rfl) (heap_at _ _ _ rfl) rfl (by simp [Value.oneCell']) (by omega) (by omega) (by simp; omega) _ rfl ?_
        intro g3 cap3 w3 hown3 hgr3 hat3 hlt3
        have hgr := grown_trans (World.grownBy_alloc w2 _ _) hgr3
        have hl3 : (lks (lk ++ [look])).length = n + 1 := by rw [lks_len, List.length_append, ← HN.out.2]; rfl
        have hP := HI2.out.look look (w2 := w3) (Al' := some ⟨g3, 0, none⟩) (cl' := cap3) (by rw [lks_len, ← HN.out.2]; exact hgr) (by
          unfold OwnI
          rw [hl3, show ints (lks (lk ++ [look])) = ints (lks lk) ++ [.int .i64 (look : Int)] from by simp [ints, lks]]
          exact hown3)
        have HI3 := Lib.hid hP
        have HB3 := Lib.hid (HB2.out.grown hgr hsz2 (fun k hk => (HLROW.out.lt k hk).1))
        have HN2 : Hid (n + 1 = (bl ++ [(⟨th, kd, f, la, nm, bw, er', rd, wt⟩ : Bl)]).length ∧ n + 1 = (lk ++ [look]).length) := by
          have := HN.out
          exact ⟨by simp; omega, by simp; omega⟩
        have HX2 : Hid (R = (bl ++ [(⟨th, kd, f, la, nm, bw, er', rd, wt⟩ : Bl)]).zip (lk ++ [look]) ++ docX l (l.drop (p + 1)) (p + 1)) := by
          have h1 := HN.out
          have h2 := HST2.out
          show R = _
          rw [List.zip_append (by omega), h2]
          simp
        clear hP hgr hl3 hown3 hgr3 hat3 hlt3 HI2 HB2 HLROW HST2 HN
        go_wp2
        go_roundw
        case rel => exact ⟨p + 1, _, _, _, _, _, _, _, n + 1, hlt, by omega, HN2, by go_num, rfl, rfl, HI3, HX2, HB3⟩
        case measure => simp [intOf]; omega
      · have HX2 := Lib.hid (show R = bl.zip lk ++ docX l (l.drop (p + 1)) (p + 1) by rw [HST.out, if_neg hk1])
        have k1 : (k == 1) = false := by simpa using hk1
        clear HST HBK hk1
        go_wp2
        go_roundw
        case rel => exact ⟨p + 1, bl, lk, Ab, cb, hd, Al, cl, n, hlt, by omega, HN, by go_num, rfl, rfl, HI, HX2, HB⟩
        case measure => simp [intOf]; omega
    · obtain rfl : p = l.length := by omega
      have hst := HX.out
      rw [docX_end, List.append_nil] at hst
      have HF := Lib.hid hst
      clear hst HX
      go_wp2
      go_ret2
      obtain ⟨h1, h2⟩ := HN.out
      exact ⟨bl, lk, Ab, cb, hd, Al, cl, by rw [← h1, ← h2]; rfl, HI.out, HF.out, by omega, by omega, HB.out⟩
end Go.Proofs.Ytjifpjfinffamaa
