/- The library's sort, with the program's own number. -/
import Derived.Test.YtdoiofdepmiejaaDoorPLay
namespace Go.Proofs
open Go.Shelf Go.Sort
open Go.RowKit in
theorem Tryd.SortI (blk off cap : Nat) (zs : List Int) (w : World) (hH : Holds (Value.int .i64) w blk off zs.toArray) (hblk : blk < w.heap.size) (hsz : zs.length < 4611686018427387904) :
    Calls Tryd.prog 34 #[.slice (some ⟨blk, off, none⟩) zs.length cap] w fun e w' =>
      e = .returned (.tuple #[]) ∧ ∃ n os, w' = grow (putRow (Value.int .i64) (Sort.ahead w n) blk off (zs.mergeSort fun x y => decide (x ≤ y)).toArray) os :=
  AnyG.slices_Sort_int Tryd.laysSort blk off cap zs w hH hblk hsz
end Go.Proofs
