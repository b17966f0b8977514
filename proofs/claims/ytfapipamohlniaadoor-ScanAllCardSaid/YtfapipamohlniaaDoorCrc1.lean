/- Package crc: More, Sum, laid, Cover. For every bytes; the table as it is laid. -/
import Derived.Test.YtfapipamohlniaaDoorCrcLaw
import Derived.Test.YtfapipamohlniaaDoorBit
import Derived.Test.YtfapipamohlniaaDoorBlk
import Derived.Test.YtfapipamohlniaaDoorRes
import Derived.Test.YtfapipamohlniaaDoorPlan
import Derived.Test.YtfapipamohlniaaDoorOwn
namespace Go.Proofs.YtfapipamohlniaaDoor
open Go.RowKit

/-- the table lies as it is laid -/
def Tab (w : World) : Prop := 1 < w.heap.size ∧ ∀ i, i < 16 → w.cell? ⟨1, i, none⟩ = some (.int .u32 ((halfC.getD i 0 : Nat) : Int))
theorem Tab.below {w w' : World} {B : Nat} (h : Tab w) (hb : Below B w w') (hB : 1 < B) : Tab w' := ⟨Nat.lt_of_lt_of_le h.1 hb.size, fun i hi => (hb.cell (p := ⟨1, i, none⟩) hB).trans (h.2 i hi)⟩
theorem Tab.after {w w' : World} (h : Tab w) (hb : Below w.heap.size w w') : Tab w' := h.below hb h.1
theorem Tab.alloc {w : World} (h : Tab w) (o : Obj) : Tab (w.alloc o) := h.after ((Below.refl _ _).alloc (Nat.le_refl _) o)

theorem bits_xor_u32_nat (a b : Nat) (ha : a < 4294967296) (hb : b < 4294967296) : bits .xor .u32 (a : Int) (b : Int) = ((a ^^^ b : Nat) : Int) := by
  have hx : a ^^^ b < 2 ^ 32 := Nat.xor_lt_two_pow (by omega) (by omega)
  have h1 : (BitVec.ofInt 32 (a : Int)).toNat = a := by
    rw [BitVec.ofInt_natCast, BitVec.toNat_ofNat]; exact Nat.mod_eq_of_lt (by omega)
  have h2 : (BitVec.ofInt 32 (b : Int)).toNat = b := by
    rw [BitVec.ofInt_natCast, BitVec.toNat_ofNat]; exact Nat.mod_eq_of_lt (by omega)
  show IntKind.u32.wrap ((BitVec.ofInt 32 (a : Int) ^^^ BitVec.ofInt 32 (b : Int)).toNat : Int) = _
  rw [BitVec.toNat_xor, h1, h2, IntKind.wrap_u32]
  omega
theorem bits_and_u32_nat (a b : Nat) (ha : a < 4294967296) (hb : b < 4294967296) : bits .and .u32 (a : Int) (b : Int) = ((a &&& b : Nat) : Int) := by
  have hx : a &&& b < 2 ^ 32 := Nat.and_lt_two_pow _ (by omega)
  have h1 : (BitVec.ofInt 32 (a : Int)).toNat = a := by
    rw [BitVec.ofInt_natCast, BitVec.toNat_ofNat]; exact Nat.mod_eq_of_lt (by omega)
  have h2 : (BitVec.ofInt 32 (b : Int)).toNat = b := by
    rw [BitVec.ofInt_natCast, BitVec.toNat_ofNat]; exact Nat.mod_eq_of_lt (by omega)
  show IntKind.u32.wrap ((BitVec.ofInt 32 (a : Int) &&& BitVec.ofInt 32 (b : Int)).toNat : Int) = _
  rw [BitVec.toNat_and, h1, h2, IntKind.wrap_u32]
  omega
theorem and15_u32 (a : Nat) (ha : a < 4294967296) : bits .and .u32 (a : Int) 15 = ((a % 16 : Nat) : Int) := by
  have := bits_and_u32_nat a 15 ha (by omega)
  rw [show (15 : Nat) = 2 ^ 4 - 1 from rfl, Nat.and_two_pow_sub_one_eq_mod] at this
  exact this
theorem not_u32 (a : Nat) (ha : a < 4294967296) : bits .xor .u32 IntKind.u32.max (a : Int) = ((4294967295 ^^^ a : Nat) : Int) := bits_xor_u32_nat 4294967295 a (by omega) ha
theorem half_lt (i : Nat) : halfC.getD i 0 < 4294967296 := by
  have all : ∀ j : Fin 16, halfC.getD j.val 0 < 4294967296 := by decide
  by_cases h : i < 16
  · exact all ⟨i, h⟩
  · have : halfC[i]? = none := List.getElem?_eq_none (by show 16 ≤ i; omega)
    simp [List.getD, this]
/-- half a byte's steps -/
def halfS (s : Nat) : Nat := (s / 16) ^^^ halfC.getD (s % 16) 0
theorem halfS_lt {s : Nat} (h : s < 4294967296) : halfS s < 4294967296 := Nat.xor_lt_two_pow (n := 32) (by omega) (half_lt _)
theorem byteC_halfS (s : Nat) (c : UInt8) : byteC s c = halfS (halfS (s ^^^ c.toNat)) := byteC_half s c

set_option maxHeartbeats 1000000 in
theorem more_any (s : Nat) (hs : s < 4294967296) (l : List UInt8) (A : Option Addr) (n c : Nat) (w : World) (hT : Tab w) (h : Rd w w.heap.size 1 A n (bcells l)) :
    Calls Tryd.prog 67 #[.int .u32 (s : Int), .slice A n c] w fun e w' => e = .returned (.int .u32 ((4294967295 ^^^ runC (4294967295 ^^^ s) l : Nat) : Int)) ∧ w = w' := by
  have hln := h.1
  have hmx := h.2.1
  unfold maxLen at hmx
  rw [bcells_len, Nat.mul_one] at hln
  have e0 := not_u32 s hs
  obtain ⟨s0, hs0⟩ : ∃ s0, s0 = 4294967295 ^^^ s := ⟨_, rfl⟩
  have hs0l : s0 < 4294967296 := by rw [hs0]; exact Nat.xor_lt_two_pow (n := 32) (by decide) hs
  rw [← hs0] at e0 ⊢
  clear hs0
  have HL := Lib.hid hln
  obtain ⟨R, hR⟩ : ∃ R, R = runC s0 l := ⟨_, rfl⟩
  rw [← hR]
  have HRR := Lib.hid hR
  have HRD := Lib.hid h
  clear hln hR h
  go_enter Tryd.func67, Tryd.ntmps67
  go_wp2
  go_loop [0, 11] (fun v i => ∃ k : Nat, k ≤ n ∧ i = .int .i64 (k : Int) ∧ v = .int .u32 ((runC s0 (l.take k) : Nat) : Int)) (fun _ i => n - (intOf i).toNat)
  case atStart => exact ⟨0, Nat.zero_le _, rfl, rfl⟩
  case round =>
    obtain ⟨k, hk, rfl, rfl⟩ := hrel
    have hr := runC_lt s0 (l.take k) hs0l
    by_cases hlt : k < n
    · obtain ⟨b, off, rfl, hblk, hcell⟩ := HRD.out.2.2 (by omega)
      have hc := hcell k _ (bcells_get (by rw [HL.out]; exact hlt))
      have HS := Lib.hid (show runC s0 (l.take (k + 1)) = byteC (runC s0 (l.take k)) (l[k]'(by rw [HL.out]; exact hlt)) by
        rw [List.take_succ_eq_append_getElem (by rw [HL.out]; exact hlt), runC_append]; rfl)
      clear hcell hblk HRD HRR
      generalize l[k]'(by rw [HL.out]; exact hlt) = u at *
      generalize runC s0 (l.take k) = r at *
      have hu := u.toNat_lt
      rw [byteC_halfS] at HS
      generalize u.toNat = y at *
      have e1 := bits_xor_u32_nat r y hr (by omega)
      have hx : r ^^^ y < 4294967296 := Nat.xor_lt_two_pow (n := 32) hr (by omega)
      generalize r ^^^ y = x at *
      have e2 := and15_u32 x hx
      have c1 := hT.2 (x % 16) (Nat.mod_lt _ (by decide))
      have e3 := bits_xor_u32_nat (x / 16) (halfC.getD (x % 16) 0) (by omega) (half_lt _)
      have hx2 := halfS_lt hx
      have e3' : bits .xor .u32 ((x / 16 : Nat) : Int) ((halfC.getD (x % 16) 0 : Nat) : Int) = (halfS x : Int) := e3
      generalize halfS x = z at *
      have e4 := and15_u32 z hx2
      have c2 := hT.2 (z % 16) (Nat.mod_lt _ (by decide))
      have e5' : bits .xor .u32 ((z / 16 : Nat) : Int) ((halfC.getD (z % 16) 0 : Nat) : Int) = (halfS z : Int) := bits_xor_u32_nat (z / 16) (halfC.getD (z % 16) 0) (by omega) (half_lt _)
      obtain ⟨xm, hxm⟩ : ∃ m, m = x % 16 := ⟨_, rfl⟩
      obtain ⟨xd, hxd⟩ : ∃ m, m = x / 16 := ⟨_, rfl⟩
      obtain ⟨zm, hzm⟩ : ∃ m, m = z % 16 := ⟨_, rfl⟩
      obtain ⟨zd, hzd⟩ : ∃ m, m = z / 16 := ⟨_, rfl⟩
      have d1 : (x : Int) / 16 = (xd : Int) := by omega
      have d2 : (z : Int) / 16 = (zd : Int) := by omega
      have m1 : xm < 16 := by omega
      have m2 : zm < 16 := by omega
      rw [← hxm] at e2 c1 e3'
      rw [← hxd] at e3'
      rw [← hzm] at e4 c2 e5'
      rw [← hzd] at e5'
      clear hxm hxd hzm hzd e3
      generalize halfC.getD xm 0 = hA at *
      generalize halfC.getD zm 0 = hB at *
      clear hT
      go_wp2
      go_round
      case rel => exact ⟨k + 1, by omega, by go_num, by rw [HS.out]⟩
      case measure => simp [intOf]; omega
    · obtain rfl : k = n := by omega
      have hRr : runC s0 (l.take k) = R := by rw [List.take_of_length_le (by rw [HL.out]; omega), HRR.out]
      rw [hRr] at hr ⊢
      clear hRr
      have e6 := not_u32 R hr
      go_wp2
      go_ret
      exact ⟨by rw [← e6]; rfl, rfl⟩

theorem sum_any (l : List UInt8) (A : Option Addr) (n c : Nat) (w : World) (hT : Tab w) (h : Rd w w.heap.size 1 A n (bcells l)) :
    Calls Tryd.prog 60 #[.slice A n c] w fun e w' => e = .returned (.int .u32 (sumC l : Int)) ∧ w = w' := by
  have H := Lib.hid (more_any 0 (by decide) l A n c w hT h)
  go_enter Tryd.func60, Tryd.ntmps60
  go_wp2_with fail
  refine H.out.mono ?_
  rintro e w1 ⟨rfl, rfl⟩
  go_wp2_with fail
  go_ret
  exact ⟨rfl, rfl⟩

theorem laidC_cells (n : Nat) : (bcells (laidC n)).toArray = #[.int .u8 ((n % 256 : Nat) : Int), .int .u8 ((n / 256 % 256 : Nat) : Int), .int .u8 ((n / 65536 % 256 : Nat) : Int), .int .u8 ((n / 16777216 % 256 : Nat) : Int)] := by
  simp [bcells, laidC, UInt8.toNat_ofNat']

theorem laid_any (n : Nat) (hn : n < 4294967296) (w : World) : Calls Tryd.prog 59 #[.int .u32 (n : Int)] w fun e w' => e = .returned (.agg (bcells (laidC n)).toArray) ∧ Below w.heap.size w w' := by
  rw [laidC_cells n]
  obtain ⟨a0, h0⟩ : ∃ a, a = n % 256 := ⟨_, rfl⟩
  obtain ⟨a1, h1⟩ : ∃ a, a = n / 256 % 256 := ⟨_, rfl⟩
  obtain ⟨a2, h2⟩ : ∃ a, a = n / 65536 % 256 := ⟨_, rfl⟩
  obtain ⟨a3, h3⟩ : ∃ a, a = n / 16777216 % 256 := ⟨_, rfl⟩
  obtain ⟨b1, g1⟩ : ∃ a, a = n / 256 := ⟨_, rfl⟩
  obtain ⟨b2, g2⟩ : ∃ a, a = n / 65536 := ⟨_, rfl⟩
  obtain ⟨b3, g3⟩ : ∃ a, a = n / 16777216 := ⟨_, rfl⟩
  have i1 : (n : Int) / 256 = (b1 : Int) := by omega
  have i2 : (n : Int) / 65536 = (b2 : Int) := by omega
  have i3 : (n : Int) / 16777216 = (b3 : Int) := by omega
  have j0 : IntKind.u8.wrap (n : Int) = (a0 : Int) := by rw [IntKind.wrap_u8]; omega
  have j1 : IntKind.u8.wrap (b1 : Int) = (a1 : Int) := by rw [IntKind.wrap_u8]; omega
  have j2 : IntKind.u8.wrap (b2 : Int) = (a2 : Int) := by rw [IntKind.wrap_u8]; omega
  have j3 : (b3 : Int) = (a3 : Int) := by omega
  have l3 : b3 < 256 := by omega
  rw [← h0, ← h1, ← h2, ← h3, ← j3]
  clear h0 h1 h2 h3 g1 g2 g3 j3
  have b0 := (Below.refl w.heap.size w).alloc (Nat.le_refl _) (.cells #[.int .u8 (a0 : Int), .int .u8 (a1 : Int), .int .u8 (a2 : Int), .int .u8 (b3 : Int)] 116)
  have q0 := Blk.new w 116 #[.int .u8 (a0 : Int), .int .u8 (a1 : Int), .int .u8 (a2 : Int), .int .u8 (b3 : Int)]
  go_enter Tryd.func59, Tryd.ntmps59
  go_wp2
  exact bodyPost_ret (results_cell1 rfl rfl (res_load q0 Tryd.underlying116 rfl (by kernel_rfl))) rfl ⟨rfl, b0⟩

set_option maxHeartbeats 1000000 in
set_option maxRecDepth 100000 in
theorem cover_any (l : List UInt8) (A : Option Addr) (n c : Nat) (w : World) (hT : Tab w) (h : Rd w w.heap.size 1 A n (bcells l)) (hn : n + 4 ≤ 140737488355328) :
    Calls Tryd.prog 58 #[.slice A n c] w (RetOwn w 5 1 (n + 4) (bcells (coverC l))) := by
  have H1 := Lib.hid (sum_any l A n c w hT h)
  have H2 := Lib.hid (laid_any (sumC l) (sumC_lt l) w)
  have hcov : bcells (coverC l) = bcells l ++ bcells (laidC (sumC l)) := by unfold coverC; rw [bcells_append]
  rw [hcov]
  clear hcov
  have one4 := bcells_one (laidC (sumC l))
  have hc4 := laidC_cells (sumC l)
  rw [hc4] at H2
  have e4 : bcells (laidC (sumC l)) = [.int .u8 ((sumC l % 256 : Nat) : Int), .int .u8 ((sumC l / 256 % 256 : Nat) : Int), .int .u8 ((sumC l / 65536 % 256 : Nat) : Int), .int .u8 ((sumC l / 16777216 % 256 : Nat) : Int)] := by
    have := congrArg Array.toList hc4
    simpa using this
  clear hc4
  generalize bcells (laidC (sumC l)) = C at *
  generalize sumC l % 256 = d0 at *
  generalize sumC l / 256 % 256 = d1 at *
  generalize sumC l / 65536 % 256 = d2 at *
  generalize sumC l / 16777216 % 256 = d3 at *
  generalize sumC l = s at *
  have E4 := Lib.hid e4
  clear e4
  go_enter Tryd.func58, Tryd.ntmps58
  go_wp2_with fail
  refine H1.out.mono ?_
  rintro e w1 ⟨rfl, rfl⟩
  go_wp2_with fail
  refine H2.out.mono ?_
  rintro e w2 ⟨rfl, b2⟩
  have hz := b2.size
  go_wp2_with fail
  have q3 := Blk.newAt w2 116 #[.int .u8 (d0 : Int), .int .u8 (d1 : Int), .int .u8 (d2 : Int), .int .u8 (d3 : Int)] (g := w2.heap.size) rfl
  have hbw := belowAlloc b2 (.cells #[.int .u8 (d0 : Int), .int .u8 (d1 : Int), .int .u8 (d2 : Int), .int .u8 (d3 : Int)] 116)
  have r3 := (h.after b2).allocs (.cells #[.int .u8 (d0 : Int), .int .u8 (d1 : Int), .int .u8 (d2 : Int), .int .u8 (d3 : Int)] 116)
  obtain ⟨g3, hg3⟩ : ∃ g, g = w2.heap.size := ⟨_, rfl⟩
  rw [← hg3] at q3 ⊢
  clear hg3
  generalize w2.alloc (.cells #[.int .u8 (d0 : Int), .int .u8 (d1 : Int), .int .u8 (d2 : Int), .int .u8 (d3 : Int)] 116) = w3 at *
  have hcur : Below w3.heap.size w3 w3.drew := ⟨rfl, rfl, rfl, Nat.le_refl _, fun _ _ => rfl⟩
  refine wp_region_plan (fun _ => True) [.calms [0, 2], .act 1, .act 3, .calms [4]] (by kernel_rfl) (by rfl) (by kernel_rfl) (by kernel_rfl) trivial ?_
  have q3 := q3.after hcur
  have r3 := r3.after hcur
  have hbw := belowGo hbw hcur
  generalize w3.drew = w4 at *
  have hSa : ∀ (W : World), (Instr.sliceAt 116 (.pointer (some ⟨g3, 0, none⟩)) none none none).run Tryd.prog W = .ok (.slice (some ⟨g3, 0, none⟩) 4 4) W := fun W => by
    have e : Tryd.prog.arrayLen 116 = 4 := by kernel_rfl
    have e2 : (sizeOf (Tryd.prog.elem 116)).run Tryd.prog W = .ok 1 W := run_sizeOf W (i := (Tryd.prog.info? 5).get!) (by kernel_rfl)
    rw [run_sliceAt_array_all W 116 ⟨g3, 0, none⟩ (by kernel_rfl), e, e2]
    simp [slicedAt, Addr.add]
  refine plan_calms (by simp [calmRow, need]; rfl) ?_
  go_wp2_with fail
  have rc : Rd w4 w4.heap.size 1 (some ⟨g3, 0, none⟩) 4 C := by
    have := q3.rd (n := 4) (size := 1) rfl (by unfold maxLen; omega)
    rw [E4.out]
    exact this
  have o0 : w4.ownsRow w4.heap.size 5 1 (.slice none 0 0) 0 [] := World.ownsRow_nil _ _ _ _
  refine plan_last (by rfl) (by kernel_rfl) ?_
  refine wpList_app eltU8 rfl (.const (.slice none 0 0)) (.tmp 7) rfl rfl o0 rfl r3 (bcells_one l) (by omega) (by unfold maxLen; omega) (Below.refl _ _) (Nat.le_refl _) ?_
  intro v1 u1 o1 c1 _ _
  have o1 : u1.ownsRow w4.heap.size 5 1 v1 n (bcells l) := by simpa using o1
  refine plan_done (plan_last (by rfl) (by kernel_rfl) ?_)
  refine wpList_app eltU8 rfl (.tmp 8) (.tmp 9) rfl rfl o1 rfl (rc.below c1 (Nat.le_refl _)) one4 (by omega) (by unfold maxLen; omega) c1 c1.size ?_
  intro v2 u2 o2 c2 _ _
  refine plan_done (plan_calms (by simp [calmRow, need]; rfl) ?_)
  go_wp2_with fail
  refine plan_end ?_
  go_wp2_with fail
  go_ret
  exact ⟨_, rfl, own_low o2 hbw.size, belowGo hbw c2⟩
end Go.Proofs.YtfapipamohlniaaDoor
