/- Package head: Put and Check, by their contracts. The table as it is laid. -/
import Derived.Test.YtmahadcohnhdkaaDoorGC
import Derived.Test.YtmahadcohnhdkaaDoorGB
namespace Go.Proofs.YtmahadcohnhdkaaDoor
open Go.RowKit

def RetP (w : World) (n : Nat) (l : List UInt8) (code : Int) (e : Ending) (w' : World) : Prop := ∃ v, e = .returned (.tuple #[v, .int .i64 code]) ∧ w'.ownsRow w.heap.size 5 1 v n (bcells l) ∧ Below w.heap.size w w'
theorem putH_no (k : Int) (id : Nat) (I : Int) (hI : I = id) (hid : id < 4294967296) (hm : mayH k id = false) (w : World) (hT : Tab w) : Calls Tryd.prog 23 #[.int .i64 k, .int .u32 I] w (RetP w 0 [] 1) := by
  have h := putH_any k id hid w hT
  rw [headP_len] at h
  unfold headP at h
  rw [hm] at h
  subst hI
  exact h
theorem putH_yes (k : Int) (id : Nat) (I : Int) (hI : I = id) (hid : id < 4294967296) (hm : mayH k id = true) (w : World) (hT : Tab w) : Calls Tryd.prog 23 #[.int .i64 k, .int .u32 I] w (RetP w 16 (headB k id) 0) := by
  have h := putH_any k id hid w hT
  rw [headP_len] at h
  unfold headP at h
  rw [hm] at h
  subst hI
  exact h
theorem checkH_at (l : List UInt8) (A : Option Addr) (n c : Nat) (k : Int) (id : Nat) (I Z : Int) (hI : I = id) (w : World) (hT : Tab w) (hnc : n ≤ c) (h : Rd w w.heap.size 1 A n (bcells l)) (hZ : (chkH l k id : Int) = Z) :
    Calls Tryd.prog 25 #[.slice A n c, .int .i64 k, .int .u32 I] w fun e w' => e = .returned (.int .i64 Z) ∧ Below w.heap.size w w' := by
  subst hI; subst hZ
  exact checkH_any l A n c k id w hT hnc h
end Go.Proofs.YtmahadcohnhdkaaDoor
