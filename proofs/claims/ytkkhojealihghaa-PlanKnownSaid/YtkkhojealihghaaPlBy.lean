/- plan.Bytes. For every plan of at most a thousand segments. -/
import Derived.Test.YtkkhojealihghaaPlEq
namespace Go.Proofs.Ytkkhojealihghaa
open Go.RowKit
attribute [local go_sem] Oper.semAt_some

/-- how many bytes segments have -/
def sumZ (L : List Se) : Nat := (L.map Se.z).sum
theorem sumZ_take {L : List Se} {j : Nat} {s : Se} (h : L[j]? = some s) : sumZ (L.take (j + 1)) = sumZ (L.take j) + s.z := by
  unfold sumZ
  rw [List.take_add_one, h]
  simp
theorem sumZ_le (L : List Se) (h : ∀ s ∈ L, s.z ≤ 4294967295) : sumZ L ≤ L.length * 4294967295 := by
  induction L with
  | nil => simp [sumZ]
  | cons s L ih =>
    have h1 := ih fun t ht => h t (List.mem_cons_of_mem _ ht)
    have h2 := h s List.mem_cons_self
    have h3 : sumZ (s :: L) = s.z + sumZ L := by simp [sumZ]
    rw [h3, List.length_cons]
    omega
set_option maxRecDepth 100000 in
set_option maxHeartbeats 8000000 in
theorem bytesP_any (L : List Se) (vs : Value) (A : Option Addr) (n c : Nat) (w : World) (hn : L.length = n) (hnm : n ≤ 1000) (hz : ∀ s ∈ L, s.z ≤ 4294967295) (r : Rd w w.heap.size 5 A n (seCells L)) :
    Calls Try.prog 14 #[.agg #[vs, .slice A n c]] w fun e w' => e = .returned (.int .i64 (sumZ L : Int)) ∧ Below w.heap.size w w' := by
  have HN := Lib.hid hn
  have HZ := Lib.hid hz
  have R := Lib.hid r
  have q1 := Blk.new w 33 #[vs, .slice A n c]
  have b1 := belowAlloc (Below.refl w.heap.size w) (.cells #[vs, .slice A n c] 33)
  clear hn hz r
  go_enter Try.func14, Try.ntmps14
  go_upto_region 1 with fail
  generalize w.alloc (.cells #[vs, .slice A n c] 33) = w1 at *
  obtain ⟨g1, hg1⟩ : ∃ g, g = w.heap.size := ⟨_, rfl⟩
  rw [← hg1] at q1 ⊢
  have B1 := Lib.hid b1
  have cc1 := q1.cell 1
  clear hg1 b1 q1
  go_wp2_with fail
  go_loopw [3, 9] (fun t i wr => ∃ j : Nat, j ≤ n ∧ i = .int .i64 (j : Int) ∧ t = .int .i64 (sumZ (L.take j) : Int) ∧ Below w.heap.size w wr) (fun _ i _ => n - (intOf i).toNat)
  case atStart => exact ⟨0, Nat.zero_le _, rfl, rfl, B1.out⟩
  case round =>
    obtain ⟨j, hj, rfl, rfl, hb⟩ := hrel
    have HB := Lib.hid hb
    clear hb cc1 B1
    by_cases hin : j < n
    · have i1 : (j : Int) < (n : Int) := by omega
      obtain ⟨p, off, rfl, hpl, hcell⟩ := R.out.2.2 (by omega)
      obtain ⟨s, hs⟩ : ∃ s, L[j]? = some s := ⟨L[j]'(by rw [HN.out]; exact hin), List.getElem?_eq_getElem _⟩
      have HAT : Hid (At wr p (off + j * 5) [.int .u32 (s.id : Int), .int .u32 (s.z : Int), .int .u32 (s.m : Int), .int .u64 (s.f : Int), .int .u64 (s.l : Int)]) := Lib.hid (seAt (l := L) (fun k u hu => (HB.out.cell (p := ⟨p, off + k, none⟩) hpl).trans (hcell k u hu)) hs)
      have hz1 := HZ.out s (List.mem_of_getElem? hs)
      have hsu := sumZ_take hs
      have hle : sumZ (L.take j) ≤ 4294967295000 := by
        have h1 := sumZ_le (L.take j) (fun t ht => HZ.out t (List.mem_of_mem_take ht))
        have h2 : (L.take j).length ≤ 1000 := by rw [List.length_take, HN.out]; omega
        exact Nat.le_trans h1 (Nat.le_trans (Nat.mul_le_mul_right 4294967295 h2) (by decide))
      have HSU := Lib.hid hsu
      obtain ⟨S, hS⟩ : ∃ k, k = sumZ (L.take j) := ⟨_, rfl⟩
      rw [← hS] at hle ⊢
      have HS := Lib.hid hS
      clear hcell hs hsu hS
      have b3 := belowAlloc (Below.refl wr.heap.size wr) (.cells #[.int .u32 (s.id : Int), .int .u32 (s.z : Int), .int .u32 (s.m : Int), .int .u64 (s.f : Int), .int .u64 (s.l : Int)] 70)
      have q3 := Blk.new wr 70 #[.int .u32 (s.id : Int), .int .u32 (s.z : Int), .int .u32 (s.m : Int), .int .u64 (s.f : Int), .int .u64 (s.l : Int)]
      go_upto_region 5 with (first
        | (refine wpList_value rfl (exec_load_mid rfl rfl HAT.out Try.underlying70 rfl (by kernel_rfl)) ?_)
        | fail)
      generalize wr.alloc (.cells #[.int .u32 (s.id : Int), .int .u32 (s.z : Int), .int .u32 (s.m : Int), .int .u64 (s.f : Int), .int .u64 (s.l : Int)] 70) = w3 at *
      obtain ⟨g3, hg3⟩ : ∃ g, g = wr.heap.size := ⟨_, rfl⟩
      rw [← hg3] at q3 ⊢
      have c31 := q3.cell 1
      have HB3 := Lib.hid (belowGo HB.out b3)
      clear hg3 q3 b3 HAT
      go_wp2_with fail
      go_roundw
      case rel => exact ⟨j + 1, by omega, by go_num, by rw [HSU.out, ← HS.out]; go_num, HB3.out⟩
      case measure => simp [intOf]; omega
    · obtain rfl : j = n := by omega
      have HE : Hid (sumZ (L.take j) = sumZ L) := Lib.hid (by rw [List.take_of_length_le (by rw [HN.out]; exact Nat.le_refl _)])
      go_wp2_with fail
      exact bodyPost_ret (results_tmp rfl _ _ _) rfl ⟨by rw [← HE.out]; rfl, HB.out⟩
end Go.Proofs.Ytkkhojealihghaa
