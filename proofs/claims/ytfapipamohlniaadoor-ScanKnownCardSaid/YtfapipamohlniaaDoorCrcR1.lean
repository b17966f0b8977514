/- The document's answer, chapter 02: modulus. -/
import Derived.Test.YtfapipamohlniaaDoorCrcRLaw
import Derived.Test.YtfapipamohlniaaDoorCrc1
namespace Go.Proofs.YtfapipamohlniaaDoor
open Go.RowKit

def lcells (l : List Bool) : List Value := l.map .bool
theorem lcells_len (l : List Bool) : (lcells l).length = l.length := by simp [lcells]
theorem lcells_append (a b : List Bool) : lcells (a ++ b) = lcells a ++ lcells b := by simp [lcells]
theorem lcells_get {l : List Bool} {k : Nat} (hk : k < l.length) : (lcells l)[k]? = some (.bool l[k]) := by simp [lcells, hk]
theorem lcells_set (l : List Bool) (j : Nat) (b : Bool) : (lcells l).set j (.bool b) = lcells (l.set j b) := by unfold lcells; rw [List.map_set]
theorem lcells_one (l : List Bool) : ∀ u ∈ lcells l, u.oneCell' = true := by
  intro u hu
  unfold lcells at hu
  rw [List.mem_map] at hu
  obtain ⟨x, _, rfl⟩ := hu
  rfl
theorem Tryd.infoBool : (Tryd.prog.info? 4).map (fun i => (i.zero, i.size, i.bytes)) = some (some (.bool false), 1, 1) := by kernel_rfl
theorem eltBool : Elt Tryd.prog 110 4 (.bool false) 1 1 := ⟨Tryd.underlying110, Tryd.infoBool, rfl, by omega⟩

theorem modL_succ {r : Nat} (h : r < 32) : modL.take (r + 1) = modL.take r ++ [powL.contains (31 - r)] := by
  rw [List.take_succ_eq_append_getElem (by rw [modL_len]; exact h)]
  congr 2
  simp [modL]
theorem powL_succ {j x : Nat} (h : j < 17) : (powL.take (j + 1)).contains x = ((powL.take j).contains x || x == powL[j]'h) := by
  rw [List.take_succ_eq_append_getElem h, List.contains_eq_mem, List.contains_eq_mem]
  simp only [List.mem_append, List.mem_singleton, Bool.decide_or]
  rfl

set_option maxRecDepth 10000 in
set_option maxHeartbeats 1000000 in
theorem rmodulus_any (w : World) : Calls Tryd.prog 64 #[] w (RetOwn w 4 1 32 (lcells modL)) := by
  go_enter Tryd.func64, Tryd.ntmps64
  go_wp2_with fail
  have q := Blk.new w 3 #[.int .i64 28, .int .i64 27, .int .i64 26, .int .i64 25, .int .i64 23, .int .i64 22, .int .i64 20, .int .i64 19, .int .i64 18, .int .i64 14, .int .i64 13, .int .i64 11, .int .i64 10, .int .i64 9, .int .i64 8, .int .i64 6, .int .i64 0]
  have hb1 := (Below.refl w.heap.size w).alloc (Nat.le_refl _) (.cells #[.int .i64 28, .int .i64 27, .int .i64 26, .int .i64 25, .int .i64 23, .int .i64 22, .int .i64 20, .int .i64 19, .int .i64 18, .int .i64 14, .int .i64 13, .int .i64 11, .int .i64 10, .int .i64 9, .int .i64 8, .int .i64 6, .int .i64 0] 3)
  obtain ⟨g, hg⟩ : ∃ g, g = w.heap.size := ⟨_, rfl⟩
  rw [← hg] at q ⊢
  clear hg
  generalize w.alloc (.cells #[.int .i64 28, .int .i64 27, .int .i64 26, .int .i64 25, .int .i64 23, .int .i64 22, .int .i64 20, .int .i64 19, .int .i64 18, .int .i64 14, .int .i64 13, .int .i64 11, .int .i64 10, .int .i64 9, .int .i64 8, .int .i64 6, .int .i64 0] 3) = w1 at *
  have hgl := q.lt
  have HC : ∀ W : World, Blk W g 3 #[.int .i64 28, .int .i64 27, .int .i64 26, .int .i64 25, .int .i64 23, .int .i64 22, .int .i64 20, .int .i64 19, .int .i64 18, .int .i64 14, .int .i64 13, .int .i64 11, .int .i64 10, .int .i64 9, .int .i64 8, .int .i64 6, .int .i64 0] → Hid (∀ j, (h : j < 17) → W.cell? ⟨g, j, none⟩ = some (.int .i64 (powL[j]'h : Int))) := fun W hq => Lib.hid fun j h => by
    rw [hq.cell j]
    have all : ∀ k : Fin 17, (#[.int .i64 28, .int .i64 27, .int .i64 26, .int .i64 25, .int .i64 23, .int .i64 22, .int .i64 20, .int .i64 19, .int .i64 18, .int .i64 14, .int .i64 13, .int .i64 11, .int .i64 10, .int .i64 9, .int .i64 8, .int .i64 6, .int .i64 0] : Array Value)[k.val]? = some (.int .i64 ((powL[k.val]'k.isLt : Nat) : Int)) := by
      intro k
      rcases k with ⟨k, hk⟩
      match k, hk with
      | 0, _ => rfl
      | 1, _ => rfl
      | 2, _ => rfl
      | 3, _ => rfl
      | 4, _ => rfl
      | 5, _ => rfl
      | 6, _ => rfl
      | 7, _ => rfl
      | 8, _ => rfl
      | 9, _ => rfl
      | 10, _ => rfl
      | 11, _ => rfl
      | 12, _ => rfl
      | 13, _ => rfl
      | 14, _ => rfl
      | 15, _ => rfl
      | 16, _ => rfl
      | _ + 17, h => exact absurd h (by omega)
    exact all ⟨j, h⟩
  go_loopw [1, 3, 4, 5] (fun v k _ _ wr => ∃ r : Nat, r ≤ 32 ∧ k = .int .i64 (31 - (r : Int)) ∧ wr.ownsRow w1.heap.size 4 1 v r (lcells (modL.take r)) ∧ Below w1.heap.size w1 wr) (fun _ k _ _ _ => (intOf k + 1).toNat)
  case atStart => exact ⟨0, by omega, rfl, World.ownsRow_nil _ _ _ _, Below.refl _ _⟩
  case round =>
    obtain ⟨r, hr, rfl, hrow, hb⟩ := hrel
    have hs := hb.size
    by_cases hlt : r < 32
    · have i1 : (0 : Int) ≤ 31 - (r : Int) := by omega
      obtain ⟨x, hx⟩ : ∃ x : Nat, x = 31 - r := ⟨_, rfl⟩
      have ex : (31 : Int) - (r : Int) = (x : Int) := by omega
      have qr := HC wr (q.below hb hgl)
      have HM := Lib.hid (modL_succ hlt)
      rw [← hx] at HM
      rw [ex]
      rw [ex] at i1
      have HX := Lib.hid (show x + r = 31 by omega)
      have hx31 : x ≤ 31 := by omega
      clear hx ex HC
      go_wp2_with fail
      go_loopw [4, 5] (fun b i wz => ∃ j : Nat, j ≤ 17 ∧ i = .int .i64 (j : Int) ∧ b = .bool ((powL.take j).contains x) ∧ wz = wr) (fun _ i _ => 17 - (intOf i).toNat)
      case atStart => exact ⟨0, by omega, rfl, rfl, rfl⟩
      case round =>
        obtain ⟨j, hj, rfl, rfl, rfl⟩ := hrel
        by_cases hj17 : j < 17
        · have hc := qr.out j hj17
          have HP := Lib.hid (powL_succ (x := x) hj17)
          clear qr
          generalize powL[j]'hj17 = y at *
          by_cases hy : y = x
          · have i2 : ((y : Int) == (x : Int)) = true := by simp [hy]
            have hy2 : (x == y) = true := by simp [hy]
            have HY := Lib.hid hy2
            clear hy hy2
            have i3 : (j : Int) < 17 := by omega
            go_wp2_with fail
            go_roundw
            case rel => exact ⟨j + 1, by omega, by go_num, by rw [HP.out, HY.out, Bool.or_true], trivial⟩
            case measure => simp [intOf]; omega
          · have i2 : ((y : Int) == (x : Int)) = false := by simp; omega
            have hy2 : (x == y) = false := by simp; omega
            have HY := Lib.hid hy2
            clear hy hy2
            have i3 : (j : Int) < 17 := by omega
            go_wp2_with fail
            go_roundw
            case rel => exact ⟨j + 1, by omega, by go_num, by rw [HP.out, HY.out, Bool.or_false], trivial⟩
            case measure => simp [intOf]; omega
        · obtain rfl : j = 17 := by omega
          rw [show powL.take 17 = powL from rfl]
          generalize powL.contains x = z at *
          go_wp2_with (at_builtin; refine wpList_push eltBool rfl (.tmp 23) (.tmp 25) rfl (W := wr) rfl hrow rfl rfl (by simp [Value.oneCell']) (by omega) (by unfold maxLen; omega) hb hs ?_; intro v' w' hown' hb' _ _)
          go_roundw
          case rel =>
            refine ⟨r + 1, by omega, ?_, ?_, hb'⟩
            · have h := HX.out
              congr 1
              omega
            · rw [HM.out, lcells_append]
              exact hown'
          case measure => simp [intOf]
    · obtain rfl : r = 32 := by omega
      rw [List.take_of_length_le (by rw [modL_len]; exact Nat.le_refl _)] at hrow
      clear HC
      go_wp2_with fail
      go_ret
      exact ⟨_, rfl, own_low hrow hb1.size, hb1.trans (hb.mono hb1.size)⟩
end Go.Proofs.YtfapipamohlniaaDoor
