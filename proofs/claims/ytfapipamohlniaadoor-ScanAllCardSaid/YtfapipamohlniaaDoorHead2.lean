/- Package head: Get, Check. For every bytes; the table as it is laid. -/
import Derived.Test.YtfapipamohlniaaDoorHead1
import Derived.Test.YtfapipamohlniaaDoorEq
import Derived.Test.YtfapipamohlniaaDoorLow
import Derived.Laws.Cover3
namespace Go.Proofs.YtfapipamohlniaaDoor
open Go.RowKit

def isH (k : Int) (id : Nat) (l : List UInt8) : Bool := mayH k id && (headB k id == l.take 16)

set_option maxRecDepth 10000 in
set_option maxHeartbeats 1000000 in
theorem is_any (k : Int) (id : Nat) (hid : id < 4294967296) (l : List UInt8) (A : Option Addr) (n c g7 g8 g1 : Nat) (w : World) (hT : Tab w) (hn : 16 ≤ n) (h : Rd w w.heap.size 1 A n (bcells l))
    (q7 : Blk w g7 3 #[.int .i64 k]) (q8 : Blk w g8 24 #[.int .u32 (id : Int)]) (q1 : Blk w g1 25 #[.slice A n c]) :
    Calls Tryd.prog 45 #[.pointer (some ⟨g7, 0, none⟩), .pointer (some ⟨g8, 0, none⟩), .pointer (some ⟨g1, 0, none⟩)] w fun e w' => e = .returned (.bool (isH k id l)) ∧ Below w.heap.size w w' := by
  have HP := Lib.hid (putH_any k id hid w hT)
  rw [headP_len] at HP
  unfold headP at HP
  unfold isH
  have hln := h.1
  rw [bcells_len, Nat.mul_one] at hln
  obtain ⟨b, off, rfl, _, _⟩ := h.2.2 (by omega)
  have c7 := q7.cell 0
  have c8 := q8.cell 0
  by_cases hm : mayH k id = true
  · rw [hm] at HP ⊢
    simp only [if_true, Bool.true_and] at HP ⊢
    have hbl := headB_len k id
    generalize headB k id = B at *
    clear hm
    go_enter Tryd.func45, Tryd.ntmps45
    go_wp2_with fail
    refine HP.out.mono ?_
    rintro e w1 ⟨v1, rfl, o1, b1⟩
    obtain ⟨gw, cw, rfl, hcw, _⟩ := own_ptr o1 (by omega)
    have r1 := own_rd o1
    have h1 := h.after b1
    have q1 := q1.after b1
    clear o1 HP
    have hb := b1
    go_wp2_with fail
    have hcur : Below w1.heap.size w1 w1.drew := ⟨rfl, rfl, rfl, Nat.le_refl _, fun _ _ => rfl⟩
    refine wp_region_plan (fun W => Below w1.heap.size w1 W) [.calms [0, 1, 2, 3, 4], .read 5, .read 6, .calms [7], .read 8, .read 9, .calms [10, 11]] (by kernel_rfl) (by rfl) (by kernel_rfl) (by kernel_rfl) hcur ?_
    generalize w1.drew = w2 at *
    have a1 : ∀ W, (Instr.arrayAt 107 (.slice (some ⟨gw, 0, none⟩) 16 cw)).run Tryd.prog W = .ok (.pointer (some ⟨gw, 0, none⟩)) W := fun W => run_arrayAt W _ _ 16 _ _ _ Tryd.underlying107 (Nat.le_refl _)
    have a2 : ∀ W, (Instr.arrayAt 107 (.slice (some ⟨b, off, none⟩) n c)).run Tryd.prog W = .ok (.pointer (some ⟨b, off, none⟩)) W := fun W => run_arrayAt W _ _ 16 _ _ _ Tryd.underlying107 hn
    refine plan_calms (by simp [calmRow, need, chk]; rfl) ?_
    go_wp2_with fail
    refine plan_read (by rfl) (.agg ((bcells B).take 16).toArray) (by rfl) (fun W hW => exec_load_rd rfl rfl (r1.below hW (Nat.le_refl _)) (Nat.le_refl _) Tryd.underlying107 (by kernel_rfl)) ?_
    refine plan_read (by rfl) (.slice (some ⟨b, off, none⟩) n c) (by rfl) (fun W hW => exec_load rfl rfl (by kernel_rfl) ((q1.after hW).cell 0)) ?_
    refine plan_calms (by simp [calmRow, need]; rfl) ?_
    go_wp2_with fail
    refine plan_read (by rfl) (.agg ((bcells l).take 16).toArray) (by rfl) (fun W hW => exec_load_rd rfl rfl (h1.below hW (Nat.le_refl _)) hn Tryd.underlying107 (by kernel_rfl)) ?_
    refine plan_read (by rfl) (.bool (B == l.take 16)) (by rfl) (fun W hW => exec_bin rfl (by
      refine run_eql_agg (xs := ((bcells B).take 16).toArray) (ys := ((bcells l).take 16).toArray) (by kernel_rfl) ?_
      rw [btake_eq, btake_eq, List.take_of_length_le (by omega : B.length ≤ 16), bcells_row, bcells_row, ← bytes_beq B (l.take 16)]
      exact run_equal_ints Tryd.underlying107 Tryd.underlying5 (i := (Tryd.prog.info? 5).get!) (by kernel_rfl) (by kernel_rfl) _ _ (by simpa using hbl) (by simp; omega))) ?_
    refine plan_calms (by simp [calmRow, need]; rfl) ?_
    go_wp2_with fail
    refine plan_end ?_
    go_wp2_with fail
    go_ret
    exact ⟨rfl, belowGo hb hcur⟩
  · have hm : mayH k id = false := by simpa using hm
    rw [hm] at HP ⊢
    simp only [Bool.false_eq_true, if_false, Bool.false_and] at HP ⊢
    clear hm
    go_enter Tryd.func45, Tryd.ntmps45
    go_wp2_with fail
    refine HP.out.mono ?_
    rintro e w1 ⟨v1, rfl, o1, b1⟩
    obtain ⟨A2, c2, rfl, _⟩ := own_cap o1
    clear o1 HP
    have hb := b1
    go_wp2_with fail
    have hcur : Below w1.heap.size w1 w1.drew := ⟨rfl, rfl, rfl, Nat.le_refl _, fun _ _ => rfl⟩
    refine wp_region_plan (fun W => Below w1.heap.size w1 W) [.calms [0, 1, 2, 3, 4], .read 5, .read 6, .calms [7], .read 8, .read 9, .calms [10, 11]] (by kernel_rfl) (by rfl) (by kernel_rfl) (by kernel_rfl) hcur ?_
    generalize w1.drew = w2 at *
    refine plan_calms (by simp [calmRow, need, chk]; rfl) ?_
    go_wp2_with fail
    refine plan_skip (by rfl) (by rfl) (plan_skip (by rfl) (by rfl) ?_)
    refine plan_calms (by simp [calmRow, need]; rfl) ?_
    go_wp2_with fail
    refine plan_skip (by rfl) (by rfl) (plan_skip (by rfl) (by rfl) ?_)
    refine plan_calms (by simp [calmRow, need]; rfl) ?_
    go_wp2_with fail
    refine plan_end ?_
    go_wp2_with fail
    go_ret
    exact ⟨rfl, belowGo hb hcur⟩
/-- what bytes begin with, as a head: kind, id, the error -/
def headGet (l : List UInt8) : Nat × Nat × Nat :=
  if l.length < 16 then (0, 0, 22)
  else if isH ((l.getD 7 0).toNat : Int) (numLE ((l.drop 8).take 4)) l then ((l.getD 7 0).toNat, numLE ((l.drop 8).take 4), 0) else (0, 0, 23)
def RetHead (k id code : Nat) (w : World) (e : Ending) (w' : World) : Prop := e = .returned (.tuple #[.int .i64 (k : Int), .int .u32 (id : Int), .int .i64 (code : Int)]) ∧ Below w.heap.size w w'

set_option maxRecDepth 10000 in
set_option maxHeartbeats 1000000 in
theorem getH_any (l : List UInt8) (A : Option Addr) (n c : Nat) (w : World) (hT : Tab w) (hnc : n ≤ c) (h : Rd w w.heap.size 1 A n (bcells l)) :
    Calls Tryd.prog 34 #[.slice A n c] w (RetHead (headGet l).1 (headGet l).2.1 (headGet l).2.2 w) := by
  have hln := h.1
  have hmx := h.2.1
  unfold maxLen at hmx
  rw [bcells_len, Nat.mul_one] at hln
  have q0 := Blk.new w 25 #[.slice A n c]
  have b0 := (Below.refl w.heap.size w).alloc (Nat.le_refl _) (.cells #[.slice A n c] 25)
  have h0 := h.allocs (.cells #[.slice A n c] 25)
  have hT0 := hT.alloc (.cells #[.slice A n c] 25)
  by_cases hs : n < 16
  · have e : headGet l = (0, 0, 22) := by unfold headGet; rw [if_pos (by omega)]
    rw [e]
    clear e
    go_enter Tryd.func34, Tryd.ntmps34
    go_wp2
    go_ret3
    exact ⟨rfl, b0⟩
  · obtain ⟨b, off, rfl, _, hcell⟩ := h0.2.2 (by omega)
    have hl7 : 7 < l.length := by omega
    obtain ⟨kb, hkb⟩ : ∃ kb, kb = (l.getD 7 0).toNat := ⟨_, rfl⟩
    obtain ⟨id, hidd⟩ : ∃ id, id = numLE ((l.drop 8).take 4) := ⟨_, rfl⟩
    have hkl : kb < 256 := by rw [hkb]; exact UInt8.toNat_lt _
    have hidl : id < 4294967296 := by
      rw [hidd]
      have := numLE_8j (l.drop 8) (j := 4) (by rw [List.length_drop]; omega)
      simpa using this
    have hc7 := hcell 7 _ (bcells_get hl7)
    have hk7 : (l[7]'hl7).toNat = kb := by rw [hkb]; simp [List.getD, hl7]
    rw [hk7] at hc7
    have eG : headGet l = if isH (kb : Int) id l then (kb, id, 0) else (0, 0, 23) := by unfold headGet; rw [if_neg (by omega), ← hkb, ← hidd]
    rw [eG]
    have HRd := fun W (r : Rd W W.heap.size 1 (some ⟨b, off, none⟩) n (bcells l)) => Lib.hid (read_any (l.drop 8) (some ⟨b, off + 8, none⟩) (n - 8) (c - 8) 4 W (r.bdrop (by omega)))
    have eN : readN (l.drop 8) 4 = id := by
      unfold readN
      rw [if_neg (by rw [List.length_drop]; omega), hidd]
      rfl
    have eE : readE (l.drop 8) 4 = 0 := by
      unfold readE
      rw [if_neg (by omega), if_neg (by rw [List.length_drop]; omega)]
    rw [eN, eE] at HRd
    have hSl : ∀ W : World, (Instr.sliceAt 25 (.slice (some ⟨b, off, none⟩) n c) (some (.int .i64 8)) none none).run Tryd.prog W = .ok (.slice (some ⟨b, off + 8, none⟩) (n - 8) (c - 8)) W := fun W => by
      have := run_low W (b := b) (off := off) (n := n) (c := c) (k := 8) (by omega) hnc
      rwa [if_neg (by omega)] at this
    have HI := fun g7 g8 g1 W hT' h' q7 q8 q1 => Lib.hid (is_any (kb : Int) id hidl l (some ⟨b, off, none⟩) n c g7 g8 g1 W hT' (by omega) h' q7 q8 q1)
    have i3 : ¬ (n : Int) < 16 := by omega
    have i4 : 7 < n := by omega
    generalize isH (kb : Int) id l = t at *
    obtain ⟨⟨rk, rid, rc⟩, hR⟩ : ∃ R, R = (if t = true then (kb, id, 0) else (0, 0, 23)) := ⟨_, rfl⟩
    rw [← hR]
    simp only
    have HR := Lib.hid hR
    clear hR
    have HKL := Lib.hid hk7
    clear eG hkb hidd hcell hk7 eN eE hln hs
    go_enter Tryd.func34, Tryd.ntmps34
    go_wp2_with fail
    generalize w.alloc (.cells #[.slice (some ⟨b, off, none⟩) n c] 25) = w0 at *
    have c0 := q0.cell 0
    have z0 := q0.lt
    refine (HRd _ h0).out.mono ?_
    rintro e w1 ⟨rfl, rfl⟩
    go_wp2_with fail
    have q7 := (Blk.new w0 3 #[.int .i64 (kb : Int)]).alloc (.cells #[.int .u32 (id : Int)] 24)
    have q8 := Blk.newAt (w0.alloc (.cells #[.int .i64 (kb : Int)] 3)) 24 #[.int .u32 (id : Int)] (g := w0.heap.size + 1) (by simp)
    have q1 := (q0.alloc (.cells #[.int .i64 (kb : Int)] 3)).alloc (.cells #[.int .u32 (id : Int)] 24)
    have r1 := (h0.allocs (.cells #[.int .i64 (kb : Int)] 3)).allocs (.cells #[.int .u32 (id : Int)] 24)
    have hT1 := (hT0.alloc (.cells #[.int .i64 (kb : Int)] 3)).alloc (.cells #[.int .u32 (id : Int)] 24)
    have b1 := (b0.alloc b0.size (.cells #[.int .i64 (kb : Int)] 3)).alloc (by simp; have := b0.size; omega) (.cells #[.int .u32 (id : Int)] 24)
    clear c0 z0 q0 h0 hT0 b0 HRd hSl hc7
    obtain ⟨g7, hg7⟩ : ∃ g, g = w0.heap.size := ⟨_, rfl⟩
    rw [← hg7] at q7 q8 ⊢
    clear hg7
    generalize (w0.alloc (.cells #[.int .i64 (kb : Int)] 3)).alloc (.cells #[.int .u32 (id : Int)] 24) = w2 at *
    refine (HI _ _ _ _ hT1 r1 q7 q8 q1).out.mono ?_
    rintro e w3 ⟨rfl, b3⟩
    have q7 := q7.after b3
    have q8 := q8.after b3
    have b4 := b1.trans (b3.mono b1.size)
    clear HI q1 r1 hT1 b1 b3
    cases t
    · obtain ⟨rfl, rfl, rfl⟩ : rk = 0 ∧ rid = 0 ∧ rc = 23 := by simpa using HR.out
      go_wp2_with fail
      go_ret3
      exact ⟨rfl, b4⟩
    · obtain ⟨rfl, rfl, rfl⟩ : rk = kb ∧ rid = id ∧ rc = 0 := by simpa using HR.out
      clear HR
      go_wp2_with fail
      have hcur : Below w3.heap.size w3 w3.drew := ⟨rfl, rfl, rfl, Nat.le_refl _, fun _ _ => rfl⟩
      refine wp_region_plan (fun W => Below w3.heap.size w3 W) [.read 0, .read 1, .calms [2, 3, 4]] (by kernel_rfl) (by rfl) (by kernel_rfl) (by kernel_rfl) hcur ?_
      generalize w3.drew = w4 at *
      refine plan_read (by rfl) (.int .i64 (rk : Int)) (by rfl) (fun W hW => exec_load rfl rfl (by kernel_rfl) ((q7.after hW).cell 0)) ?_
      refine plan_read (by rfl) (.int .u32 (rid : Int)) (by rfl) (fun W hW => exec_load rfl rfl (by kernel_rfl) ((q8.after hW).cell 0)) ?_
      refine plan_calms (by simp [calmRow, need]; rfl) ?_
      go_wp2_with fail
      refine plan_end ?_
      go_wp2_with fail
      go_ret3
      exact ⟨rfl, b4.trans (hcur.mono b4.size)⟩

def chkH (l : List UInt8) (k : Int) (id : Nat) : Nat := if (headGet l).2.2 = 0 ∧ ¬ (((headGet l).1 : Int) = k ∧ (headGet l).2.1 = id) then 23 else (headGet l).2.2
set_option maxRecDepth 10000 in
theorem checkH_any (l : List UInt8) (A : Option Addr) (n c : Nat) (k : Int) (id : Nat) (w : World) (hT : Tab w) (hnc : n ≤ c) (h : Rd w w.heap.size 1 A n (bcells l)) :
    Calls Tryd.prog 22 #[.slice A n c, .int .i64 k, .int .u32 (id : Int)] w fun e w' => e = .returned (.int .i64 (chkH l k id : Int)) ∧ Below w.heap.size w w' := by
  have H := Lib.hid (getH_any l A n c w hT hnc h)
  unfold RetHead at H
  unfold chkH
  generalize headGet l = G at *
  obtain ⟨gk, gi, ge⟩ := G
  simp only at H ⊢
  by_cases he : ge = 0
  · subst he
    by_cases hk : (gk : Int) = k
    · subst hk
      by_cases hi : gi = id
      · subst hi
        rw [if_neg (by simp)]
        go_enter Tryd.func22, Tryd.ntmps22
        go_wp2_with fail
        refine H.out.mono ?_
        rintro e w1 ⟨rfl, b1⟩
        go_wp2_with fail
        go_ret
        exact ⟨rfl, b1⟩
      · rw [if_pos (by simp [hi])]
        have i1 : ((gi : Int) != (id : Int)) = true := by simp; omega
        go_enter Tryd.func22, Tryd.ntmps22
        go_wp2_with fail
        refine H.out.mono ?_
        rintro e w1 ⟨rfl, b1⟩
        go_wp2_with fail
        go_ret
        exact ⟨rfl, b1⟩
    · rw [if_pos (by simp [hk])]
      have i1 : ((gk : Int) != k) = true := by simpa using hk
      go_enter Tryd.func22, Tryd.ntmps22
      go_wp2_with fail
      refine H.out.mono ?_
      rintro e w1 ⟨rfl, b1⟩
      go_wp2_with fail
      go_ret
      exact ⟨rfl, b1⟩
  · rw [if_neg (by simp [he])]
    have i1 : ((ge : Int) == 0) = false := by simp; omega
    go_enter Tryd.func22, Tryd.ntmps22
    go_wp2_with fail
    refine H.out.mono ?_
    rintro e w1 ⟨rfl, b1⟩
    go_wp2_with fail
    go_ret
    exact ⟨rfl, b1⟩
end Go.Proofs.YtfapipamohlniaaDoor
