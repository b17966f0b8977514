/- Package head: may, Put. For every kind and id; the table as it is laid. -/
import Derived.Test.YtfapipamohlniaaDoorCrc1
import Derived.Test.YtfapipamohlniaaDoorPfx
import Derived.Test.YtfapipamohlniaaDoorAppF
import Derived.Lib.SlBytesConst
namespace Go.Proofs.YtfapipamohlniaaDoor
open Go.RowKit

def mayH (k : Int) (id : Nat) : Bool := decide ((k = 2 ∧ id = 0) ∨ (k = 1 ∧ 1 ≤ id ∧ id ≤ 16777215))
theorem mayH_any (k : Int) (id : Nat) (w : World) : Calls Tryd.prog 56 #[.int .i64 k, .int .u32 (id : Int)] w fun e w' => e = .returned (.bool (mayH k id)) ∧ w = w' := by
  obtain ⟨b, hb⟩ : ∃ b, b = mayH k id := ⟨_, rfl⟩
  rw [← hb]
  unfold mayH at hb
  by_cases h2 : k = 2
  · subst h2
    by_cases h0 : id = 0
    · obtain rfl : b = true := by rw [hb]; simp [h0]
      clear hb
      have i1 : ((id : Int) == 0) = true := by simp [h0]
      clear h0
      go_enter Tryd.func56, Tryd.ntmps56
      go_wp2
      go_ret
      exact ⟨rfl, rfl⟩
    · obtain rfl : b = false := by rw [hb]; simp [h0]
      clear hb
      have i1 : ((id : Int) == 0) = false := by simp [h0]
      clear h0
      go_enter Tryd.func56, Tryd.ntmps56
      go_wp2
      go_ret
      exact ⟨rfl, rfl⟩
  · have i2 : (k == 2) = false := by simp [h2]
    by_cases h1 : k = 1
    · subst h1
      clear i2 h2
      by_cases h3 : 1 ≤ id
      · have hb : b = decide ((id : Int) ≤ 16777215) := by rw [hb, Bool.eq_iff_iff]; simp; omega
        subst hb
        clear hb
        go_enter Tryd.func56, Tryd.ntmps56
        go_wp2
        go_ret
        exact ⟨by simp, rfl⟩
      · obtain rfl : b = false := by rw [hb]; simp; omega
        clear hb
        go_enter Tryd.func56, Tryd.ntmps56
        go_wp2
        go_ret
        exact ⟨rfl, rfl⟩
    · obtain rfl : b = false := by rw [hb]; simp [h1, h2]
      clear hb
      have i1 : (k == 1) = false := by simp [h1]
      clear h1 h2
      go_enter Tryd.func56, Tryd.ntmps56
      go_wp2
      go_ret
      exact ⟨rfl, rfl⟩

theorem cell_newF (w : World) (cs : Array Value) (t : TypeId) (fr : Nat × Nat) (i : Nat) : (w.alloc (.cells cs t fr)).cell? ⟨w.heap.size, i, none⟩ = cs[i]? := by
  unfold World.cell? World.alloc
  simp
theorem rd_newF (w : World) (cs : Array Value) (t : TypeId) (fr : Nat × Nat) (l : List UInt8) (h : cs.toList = bcells l) (hm : l.length ≤ maxLen) : Rd (w.alloc (.cells cs t fr)) (w.alloc (.cells cs t fr)).heap.size 1 (some ⟨w.heap.size, 0, none⟩) l.length (bcells l) :=
  ⟨by rw [bcells_len]; omega, hm, fun _ => ⟨w.heap.size, 0, rfl, by simp, fun j u hu => by rw [Nat.zero_add, cell_newF, ← Array.getElem?_toList, h]; exact hu⟩⟩
/-- the first twelve bytes of a head -/
def headF (k : Int) (id : Nat) : List UInt8 := [104, 111, 117, 114, 98, 107, 49, UInt8.ofNat k.toNat] ++ le id 4
theorem headF_len (k : Int) (id : Nat) : (headF k id).length = 12 := by simp [headF, le_len]
def headB (k : Int) (id : Nat) : List UInt8 := coverC (headF k id)
theorem headB_len (k : Int) (id : Nat) : (headB k id).length = 16 := by unfold headB; rw [coverC_len, headF_len]
def headP (k : Int) (id : Nat) : List UInt8 := if mayH k id then headB k id else []
theorem headP_len (k : Int) (id : Nat) : (headP k id).length = if mayH k id then 16 else 0 := by unfold headP; split <;> simp [headB_len]

set_option maxRecDepth 10000 in
set_option maxHeartbeats 1000000 in
theorem putH_any (k : Int) (id : Nat) (hid : id < 4294967296) (w : World) (hT : Tab w) :
    Calls Tryd.prog 46 #[.int .i64 k, .int .u32 (id : Int)] w (RetFixed w 5 (headP k id).length (bcells (headP k id)) (if mayH k id then 0 else 1)) := by
  have H := Lib.hid (mayH_any k id w)
  rw [headP_len]
  unfold headP
  by_cases hm : mayH k id = true
  · have hk : (k = 1 ∨ k = 2) ∧ id < 16777216 := by unfold mayH at hm; simp only [decide_eq_true_eq] at hm; omega
    rw [hm] at H ⊢
    simp only [if_true]
    have hk8 : IntKind.u8.wrap k = k := by rw [IntKind.wrap_u8]; omega
    obtain ⟨kn, rfl, hkn⟩ : ∃ kn : Nat, k = (kn : Int) ∧ kn < 256 := ⟨k.toNat, by omega, by omega⟩
    have HF := fun A c W h => Lib.hid (fixed_any [104, 111, 117, 114, 98, 107, 49, UInt8.ofNat kn] A 8 c id (by omega) 4 W h (by omega))
    have e1 : fixedB [104, 111, 117, 114, 98, 107, 49, UInt8.ofNat kn] id 4 = headF kn id := by
      have : fixedOk id 4 = true := by unfold fixedOk fits; simp; omega
      unfold fixedB
      rw [this]
      rfl
    have e2 : fixedE id 4 = 0 := by
      have : fits id 32 = true := by unfold fits; simp; omega
      unfold fixedE
      simp [this]
    rw [e1, e2, headF_len] at HF
    have HC := fun A c W hT h => Lib.hid (cover_any (headF kn id) A 12 c W hT h (by omega))
    have hu8 : ((UInt8.ofNat kn).toNat : Int) = (kn : Int) := by rw [UInt8.toNat_ofNat']; omega
    have eH : headB (kn : Int) id = coverC (headF kn id) := rfl
    rw [eH]
    generalize headF (kn : Int) id = hF at *
    generalize coverC hF = hC at *
    clear hm e1 e2 eH
    go_enter Tryd.func46, Tryd.ntmps46
    go_wp2_with fail
    refine H.out.mono ?_
    rintro e w1 ⟨rfl, rfl⟩
    go_wp2_with fail
    rw [Lib.run_convert_bytes_const (P := Tryd.prog) w 25 5 #[.int .u8 104, .int .u8 111, .int .u8 117, .int .u8 114, .int .u8 98, .int .u8 107, .int .u8 49] 7 7 Tryd.underlying25 Tryd.underlying5]
    simp only [Result.andThen]
    rw [Oper.upon_value]
    have ra := rd_newF w #[.int .u8 104, .int .u8 111, .int .u8 117, .int .u8 114, .int .u8 98, .int .u8 107, .int .u8 49] 5 (#[Value.int .u8 104, Value.int .u8 111, Value.int .u8 117, Value.int .u8 114, Value.int .u8 98, Value.int .u8 107, Value.int .u8 49].size, #[Value.int .u8 104, Value.int .u8 111, Value.int .u8 117, Value.int .u8 114, Value.int .u8 98, Value.int .u8 107, Value.int .u8 49].size + 1) [104, 111, 117, 114, 98, 107, 49] rfl (by unfold maxLen; simp)
    have b1 := (Below.refl w.heap.size w).alloc (Nat.le_refl _) (.cells #[.int .u8 104, .int .u8 111, .int .u8 117, .int .u8 114, .int .u8 98, .int .u8 107, .int .u8 49] 5 (#[Value.int .u8 104, Value.int .u8 111, Value.int .u8 117, Value.int .u8 114, Value.int .u8 98, Value.int .u8 107, Value.int .u8 49].size, #[Value.int .u8 104, Value.int .u8 111, Value.int .u8 117, Value.int .u8 114, Value.int .u8 98, Value.int .u8 107, Value.int .u8 49].size + 1))
    have hT1 := hT.alloc (.cells #[.int .u8 104, .int .u8 111, .int .u8 117, .int .u8 114, .int .u8 98, .int .u8 107, .int .u8 49] 5 (#[Value.int .u8 104, Value.int .u8 111, Value.int .u8 117, Value.int .u8 114, Value.int .u8 98, Value.int .u8 107, Value.int .u8 49].size, #[Value.int .u8 104, Value.int .u8 111, Value.int .u8 117, Value.int .u8 114, Value.int .u8 98, Value.int .u8 107, Value.int .u8 49].size + 1))
    obtain ⟨gl, hgl⟩ : ∃ g, g = w.heap.size := ⟨_, rfl⟩
    rw [← hgl] at ra ⊢
    clear hgl
    generalize w.alloc (.cells #[.int .u8 104, .int .u8 111, .int .u8 117, .int .u8 114, .int .u8 98, .int .u8 107, .int .u8 49] 5 (#[Value.int .u8 104, Value.int .u8 111, Value.int .u8 117, Value.int .u8 114, Value.int .u8 98, Value.int .u8 107, Value.int .u8 49].size, #[Value.int .u8 104, Value.int .u8 111, Value.int .u8 117, Value.int .u8 114, Value.int .u8 98, Value.int .u8 107, Value.int .u8 49].size + 1)) = w2 at *
    have ra : Rd w2 w2.heap.size 1 (some ⟨gl, 0, none⟩) 7 (bcells [104, 111, 117, 114, 98, 107, 49]) := ra
    go_wp2_with (at_builtin; refine wpList_pushFull eltU8 rfl (.tmp 14) (.tmp 17) rfl (W := w2) rfl ra (by omega) (Nat.le_refl _) rfl rfl (by omega) (by unfold maxLen; omega) ?_; intro v3 w3 o3 b3)
    obtain ⟨g3, c3, rfl, _, _⟩ := own_ptr o3 (by omega)
    have r3 := own_rd o3
    have e3 : bcells [104, 111, 117, 114, 98, 107, 49] ++ #[Value.int .u8 (kn : Int)].toList = bcells [104, 111, 117, 114, 98, 107, 49, UInt8.ofNat kn] := by
      unfold bcells
      simp [UInt8.toNat_ofNat', Nat.mod_eq_of_lt hkn]
    rw [e3] at r3
    have hb := b1.trans (b3.mono b1.size)
    have hT3 := hT1.after b3
    clear e3 o3 ra b1 b3 hT1
    refine (HF _ _ _ r3).out.mono ?_
    rintro e w4 ⟨v4, rfl, o4, b4⟩
    obtain ⟨g4, c4, rfl, _, _⟩ := own_ptr o4 (by omega)
    have r4 := own_rd o4
    have hb := hb.trans (b4.mono hb.size)
    have hT4 := hT3.after b4
    go_wp2_with fail
    refine (HC _ _ _ hT4 r4).out.mono ?_
    rintro e w5 ⟨v5, rfl, o5, b5⟩
    go_wp2_with fail
    go_ret2
    exact ⟨_, rfl, own_low o5 hb.size, hb.trans (b5.mono hb.size)⟩
  · have hm : mayH k id = false := by simpa using hm
    rw [hm] at H ⊢
    clear hm
    go_enter Tryd.func46, Tryd.ntmps46
    go_wp2_with fail
    refine H.out.mono ?_
    rintro e w1 ⟨rfl, rfl⟩
    go_wp2_with fail
    go_ret2
    exact ⟨_, rfl, World.ownsRow_nil _ _ _ _, Below.refl _ _⟩
end Go.Proofs.YtfapipamohlniaaDoor
