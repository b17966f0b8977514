/- Package record: Get, what it needs. For every input. -/
import Derived.Test.YtfapipamohlniaaDoorRec4
import Derived.Deep.CutRange
import Derived.Laws.CopyOwn
namespace Go.Proofs.YtfapipamohlniaaDoor
open Go.RowKit

theorem own_blk {w : World} {g : Nat} {t : TypeId} {cs : Array Value} (h : Blk w g t cs) {B n : Nat} (hB : B ≤ g) (hn : cs.size = n) (hm : n ≤ maxLen) : w.ownsRow B t 1 (.slice (some ⟨g, 0, none⟩) n n) n cs.toList :=
  ⟨by simpa using hn, .inr ⟨g, n, cs, rfl, hB, h, Nat.le_refl _, hm, by omega, by rw [Nat.mul_one, List.take_of_length_le (by simp; omega)]⟩⟩
section
variable {P : Program}
/-- copy(d, s): d a whole row, s at least as long -/
theorem wpList_copyRd {w : World} {ops : Array Oper} {rest : List Oper} {o : Oper} {a : Act} {Q : Exit → Act → World → Prop} (hgd : o.guard = none) (d s : Operand) (dT sT : TypeId)
    (ho : o.op = .call { callee := .builtin .copy, args := #[d, s], argTypes := #[dT, sT] }) (elem : TypeId) (hu : P.underlying dT = some (.slice elem)) (hsz : (P.info? elem).map (·.size) = some 1)
    {g n c m c' B : Nat} {A : Option Addr} {cur : Array Value} {t : TypeId} {l : List UInt8} (hd : a.eval d = .slice (some ⟨g, 0, none⟩) n c) (hs : a.eval s = .slice A m c') (hr : Rd w B 1 A m (bcells l)) (hnm : n ≤ m) (h0 : 0 < m)
    (hg : Blk w g t cur) (hc : cur.size = n)
    (h : ∀ w', Blk w' g t (bcells (l.take n)).toArray → w.grownBy w' (some g) → wpList P ops Q rest (a.put o.dst (goInt n)) w') : wpList P ops Q (o :: rest) a w := by
  obtain ⟨b, off, rfl, _, hcell⟩ := hr.2.2 h0
  have hl := hr.1
  rw [bcells_len, Nat.mul_one] at hl
  have hlen : (bcells (l.take n)).length = n := by rw [bcells_len, List.length_take]; omega
  have e : (cur.toList.take 0 ++ (bcells (l.take n) ++ cur.toList.drop (0 + (bcells (l.take n)).length))).toArray = (bcells (l.take n)).toArray := by
    rw [hlen, List.drop_of_length_le (by simp; omega)]
    simp
  refine wpList_copy_own hgd d s dT sT ho elem hu hsz g 0 n c ⟨b, off, none⟩ m c' hd hs cur t hg (bcells (l.take n)) (by rw [hlen]; exact (Nat.min_eq_right hnm).symm) (fun j v hj => ?_) (by rw [hlen]; omega) (bcells_one _) ?_
  · rw [add_none]
    refine hcell j v ?_
    unfold bcells at hj ⊢
    rw [List.map_take, List.getElem?_take] at hj
    split at hj
    · exact hj
    · cases hj
  · rw [e, hlen]
    refine h _ (setRow_heap w g cur _ t _ hg) ⟨rfl, rfl, rfl, by simp [World.setRow], fun k _ hk => setRow_other w g k _ (fun e => hk (by rw [e]))⟩
end

theorem fails_any (size : Int) (code : Int) (w : World) : Calls Tryd.prog 47 #[.int .i64 size, .int .i64 code] w fun e w' => e = .returned (.tuple #[recV 0 0 (.slice none 0 0) (.slice none 0 0) 0 0, .int .i64 size, .int .i64 code]) ∧ Below w.heap.size w w' := by
  unfold recV
  have q0 := Blk.new w 44 #[.int .u64 0, .int .i64 0, .slice none 0 0, .slice none 0 0, .int .u32 0, .int .u32 0]
  have b0 := (Below.refl w.heap.size w).alloc (Nat.le_refl _) (.cells #[.int .u64 0, .int .i64 0, .slice none 0 0, .slice none 0 0, .int .u32 0, .int .u32 0] 44)
  go_enter Tryd.func47, Tryd.ntmps47
  go_wp2_with fail
  exact bodyPost_ret (results_cell3 rfl rfl (res_load (cs := #[.int .u64 0, .int .i64 0, .slice none 0 0, .slice none 0 0, .int .u32 0, .int .u32 0]) q0 Tryd.underlying44 rfl (by kernel_rfl))) rfl ⟨rfl, b0⟩

/-- what bytes begin with, as a record: its size and the error -/
def sizeG (l : List UInt8) : Nat := 25 + numH l 1 + numH l 2
def mayG (l : List UInt8) : Bool := mayR (numH l 3) (numH l 0 : Int) (numH l 1) (numH l 2) (numH l 4) (numH l 5)
def rightL (l : List UInt8) : Bool := coverC (l.take (l.length - 4)) == l
def getS (l : List UInt8) : Nat × Nat :=
  if l.length < 21 then (0, 22) else if rightL (l.take 21) = false then (0, 23) else if mayG l = false then (0, 23)
  else if l.length < sizeG l then (0, 22) else if rightL (l.take (sizeG l)) = false then (sizeG l, 23) else (sizeG l, 0)
def keyG (l : List UInt8) : List UInt8 := (l.drop 21).take (numH l 1)
def valG (l : List UInt8) : List UInt8 := (l.drop (21 + numH l 1)).take (numH l 2)
end Go.Proofs.YtfapipamohlniaaDoor
