/- FreeNested, at every input. -/
import Derived.Test.YtomcobcmjocapaaGreatDoorPP
import Derived.Test.YtomcobcmjocapaaGreatDoorQA
namespace Go.Proofs.YtomcobcmjocapaaGreatDoor
open Go.RowKit
theorem free_any (w : World) (A B : Option Addr) (c d xa : Nat) (first : List Int) (gets : List Nat) (xw : Int) (more : Bool) (xp xh : Int) (hd : Deb w)
    (rf : RK .u64 w w.heap.size A first) (rg : RK .u64 w w.heap.size B (gets.map fun (n : Nat) => (n : Int))) :
    Calls Tryz.prog 3 #[.slice A first.length c, .agg #[.slice B gets.length d, .int .u64 xa, .int .u64 xw, .bool more, .int .u64 xp, .int .i64 xh]] w fun e w' => e = .returned (.bool true) ∧ Below w.heap.size w w' := by
  have h1 : 1 < w.heap.size := World.block_lt_of_cell? w ⟨1, 7, none⟩ hd
  by_cases hbig : first.length = 0 ∨ 20 < first.length ∨ 20 < gets.length
  · exact free_big w A B c d xa first gets xw more xp xh hd h1 hbig
  · exact free_main w A B c d xa first gets xw more xp xh hd h1 rf rg (by omega) (by omega)
end Go.Proofs.YtomcobcmjocapaaGreatDoor
