/- RacesAhead holds for every input, with no condition. -/
import Derived.Test.YtjifpjfinffamaaRows
import Derived.Test.YtjifpjfinffamaaChecked
import Derived.Test.YtjifpjfinffamaaZ3
import Derived.Test.YtjifpjfinffamaaZ27
import Derived.OpenShut
namespace Go.Proofs.Ytjifpjfinffamaa
open Go.ChangeShapes Go.WideShapes Go.ChangeAt Go.RowKit

theorem Try.laidOut : laidOutB Try.prog = true := by kernel_rfl
theorem law10_any (A : Option Addr) (cap : Nat) (l : List Ev) (Aw : Option Addr) (cw : Nat) (ws : List Int) (Ap : Option Addr) (cp : Nat) (ps : List (Int × Int)) (w : World) (hc : EvR w w.heap.size A l) (hw : RK .u64 w w.heap.size Aw ws) (hp : RP2 w w.heap.size Ap ps) (hwl : ws.length * 8 ≤ 140737488351232) :
    Calls Try.prog 10 #[.slice A l.length cap, .slice Aw ws.length cw, .slice Ap ps.length cp] w fun e w' => e = .returned (.bool true) ∧ Below w.heap.size w w' := by
  by_cases h1 : 300 < l.length ∨ 40 < ps.length
  · exact law10_long A cap l Aw cw ws Ap cp ps w h1
  · by_cases hk : (chk ss0 l 0).2 = 0
    · rcases check_split A cap l w (by omega) hc with ⟨h2, _⟩ | ⟨h2, _⟩
      · exact absurd hk h2
      · exact law10_good A cap l Aw cw ws Ap cp ps w (by omega) (by omega) h2 hc hw hp hwl
    · exact law10_bad A cap l Aw cw ws Ap cp ps w (by omega) (by omega) hk hc hw hp hwl

set_option linter.unusedVariables false in
set_option maxRecDepth 100000 in
theorem ahead_lifted (os : Os) (started : os.Started) (H : Type) (enc : TypeId × Value → H) :
    ReturnsInHanded {} Try.checked os 10 .any (Rows.racesAheadSpec.pre6 enc Try.prog Try.f10 Rows.racesAheadRow.domain false) (Rows.racesAheadSpec.post enc Try.prog Try.f10 false true false false) := by
  refine returnsInHanded_of_change_sized (C := Try.checked) Try.own started (by kernel_rfl) Try.func10
    (ChangeSpec.witness6 (enc := enc) (C := Try.checked) false ⟨#[], #[.slice none 0 0, .slice none 0 0, .slice none 0 0], []⟩ 8 (by kernel_rfl) (by kernel_rfl) (by kernel_rfl) (by kernel_rfl)) ?_
  intro W base args ds gs before hval0 hW hcnd hsz0 _
  have hval : ∀ (j : Nat) t v, Try.f10.params[j]? = some t → args[j]? = some v → Value.okWide Try.prog W .any base t v := hval0
  have hsz : (DataW.weightsEach Try.prog (Try.f10.params.toList ++ Rows.racesAheadSpec.plain.varTypes Try.prog) (ds ++ gs)).all (· ≤ reachBytes) = true := hsz0
  have hW' := hW
  obtain ⟨p, q, hA0, hV, rfl, hfz, hnd⟩ := hW
  have hA : DataW.TrodAll enc Try.prog W 0 (fun _ => true) true Try.f10.params.toList args.toList ds p := hA0
  rw [Try.params10] at hA hval hsz
  obtain ⟨v0, vs0, d0, ds0, p0, q0, hargs, rfl, rfl, h0, r0⟩ := trodAll_cons hA
  obtain ⟨v1, vs1, d1, ds1, p1, q1, rfl, rfl, rfl, h1, r1⟩ := trodAll_cons r0
  obtain ⟨v2, vs2, d2, ds2, p2, q2, rfl, rfl, rfl, h2, r2⟩ := trodAll_cons r1
  obtain ⟨rfl, rfl, rfl⟩ := trodAll_nil r2
  obtain rfl : args = #[v0, v1, v2] := by cases args; simp_all
  obtain ⟨rfl, rfl⟩ := trodVars_none hV
  obtain ⟨A, c, l, rfl, hc, _, lt0⟩ := open_events (hval 0 22 v0 rfl rfl) h0
  obtain ⟨A1, c1, ws, rfl, hw, hdl, lt1⟩ := open_words (hval 1 86 v1 rfl rfl) h1
  obtain ⟨A2, c2, ps, rfl, hp, _, lt2⟩ := open_races (hval 2 73 v2 rfl rfl) h2
  have hwl := sized_words hsz (j := 1) rfl rfl hdl
  clear hA0 hval0
  refine (law10_any A c l A1 c1 ws A2 c2 ps W hc hw hp hwl).mono fun e W' ⟨he, bel⟩ => ?_
  subst he
  exact ⟨_, rfl, _, _, _, [], _, [], hW', trodAll_mk1 (shut_bool Try.underlying4 _), (trodAll_cons_mk (Below.trod Try.laidOut (by kernel_rfl) (of_decide_eq_true (by kernel_rfl)) h0 bel lt0) (trodAll_cons_mk (Below.trod Try.laidOut (by kernel_rfl) (of_decide_eq_true (by kernel_rfl)) h1 bel lt1) (trodAll_cons_mk (Below.trod Try.laidOut (by kernel_rfl) (of_decide_eq_true (by kernel_rfl)) h2 bel lt2) trodAll_mk0))), rfl, bel.frame _, fun h => by cases h⟩

theorem racesAhead_holds : Rows.RacesAheadSaid :=
  OpenClaim.holds_of_wide 10 Try.f10 rfl rfl rfl rfl rfl rfl rfl ⟨rfl, rfl, rfl, rfl, rfl⟩ rfl rfl rfl rfl rfl (by kernel_rfl) Try.func10 (by kernel_rfl)
    (of_decide_eq_true (by kernel_rfl)) (by unfold Func.isWrapper; first | (rw [if_pos (by decide +kernel)]; kernel_rfl) | (rw [if_neg (by decide +kernel)]; exact ⟨rfl, rfl⟩))
    (fun os started H enc _ => ahead_lifted os started H enc)
#print axioms racesAhead_holds
end Go.Proofs.Ytjifpjfinffamaa
