/- Bytes: how a slice of them reads; bytes.Equal, bytes.Clone by the kit's contracts. No condition of their own. -/
import Derived.Test.YtldeldjbpngbkaaRows
import Derived.Test.YtldeldjbpngbkaaApp
import Derived.Test.YtldeldjbpngbkaaTake
import Derived.Test.YtldeldjbpngbkaaShelf
import Derived.Lib.Bytes
import Derived.Shelf.Bytes.SlClone
namespace Go.Proofs.Ytldeldjbpngbkaa
open Go.RowKit

def bnum (l : List UInt8) : List Int := l.map fun u => (u.toNat : Int)
def bcells (l : List UInt8) : List Value := l.map fun u => .int .u8 (u.toNat : Int)
theorem bnum_len (l : List UInt8) : (bnum l).length = l.length := by simp [bnum]
theorem bcells_len (l : List UInt8) : (bcells l).length = l.length := by simp [bcells]
theorem bnum_cells (l : List UInt8) : (bnum l).map (Value.int .u8) = bcells l := by simp [bnum, bcells, Function.comp_def]
theorem bnum_bytes (l : List UInt8) : Lib.bytesOf (bnum l) = l := by
  unfold Lib.bytesOf bnum
  rw [List.map_map]
  conv => rhs; rw [← List.map_id l]
  apply List.map_congr_left
  intro u _
  simp
theorem bcells_append (a b : List UInt8) : bcells (a ++ b) = bcells a ++ bcells b := by simp [bcells]
theorem bcells_get {l : List UInt8} {k : Nat} (hk : k < l.length) : (bcells l)[k]? = some (.int .u8 (l[k].toNat : Int)) := by simp [bcells, hk]
theorem bcells_one (l : List UInt8) : ∀ u ∈ bcells l, u.oneCell' = true := by
  intro u hu
  unfold bcells at hu
  rw [List.mem_map] at hu
  obtain ⟨x, _, rfl⟩ := hu
  rfl
theorem Try.infoU8 : (Try.prog.info? 5).map (fun i => (i.zero, i.size, i.bytes)) = some (some (.int .u8 0), 1, 1) := by kernel_rfl
theorem eltU8 : Elt Try.prog 22 5 (.int .u8 0) 1 1 := ⟨Try.underlying22, Try.infoU8, rfl, by omega⟩

end Go.Proofs.Ytldeldjbpngbkaa
