/- The document's answer, chapter 01: Bytes, Form, Shortest, Put. For every number and bytes. -/
import Derived.Test.YtedjolkkidciiaaGB
import Derived.Test.YtedjolkkidciiaaRef1
import Derived.Test.YtedjolkkidciiaaGP
namespace Go.Proofs.Ytedjolkkidciiaa
open Go.RowKit

def bytesJ : Nat → List Nat → List UInt8
  | 0, _ => []
  | j + 1, l => UInt8.ofNat (numB (l.take 8)) :: bytesJ j (l.drop 8)
theorem bytesJ_len : ∀ (j : Nat) (l : List Nat), (bytesJ j l).length = j
  | 0, _ => rfl
  | j + 1, l => by rw [bytesJ, List.length_cons, bytesJ_len j]
theorem bytesJ_get : ∀ (k j : Nat) (l : List Nat), k < j → (bytesJ j l)[k]? = some (UInt8.ofNat (numB ((l.drop (8 * k)).take 8)))
  | k, 0, _, h => by omega
  | 0, j + 1, l, _ => by simp [bytesJ]
  | k + 1, j + 1, l, h => by
    rw [bytesJ, List.getElem?_cons_succ, bytesJ_get k j _ (by omega), List.drop_drop, show 8 + 8 * k = 8 * (k + 1) by omega]
theorem bytesJ_snoc (k j : Nat) (l : List Nat) (h : k < j) : (bytesJ j l).take (k + 1) = (bytesJ j l).take k ++ [UInt8.ofNat (numB ((l.drop (8 * k)).take 8))] := by
  have hk : k < (bytesJ j l).length := by rw [bytesJ_len]; exact h
  have := bytesJ_get k j l h
  rw [List.getElem?_eq_getElem hk] at this
  injection this with this
  rw [List.take_succ_eq_append_getElem hk, this]
theorem numB_acc (n : Nat) : ∀ l : List Nat, l.foldl (fun n b => 2 * n + b) n = n * 2 ^ l.length + numB l
  | [] => by simp [numB]
  | b :: l => by
    have h1 := numB_acc (2 * n + b) l
    have h2 := numB_acc b l
    unfold numB at *
    simp only [List.foldl_cons, Nat.mul_zero, Nat.zero_add, List.length_cons]
    rw [h1, h2, Nat.pow_succ, Nat.add_mul]
    have : 2 * n * 2 ^ l.length = n * (2 ^ l.length * 2) := by rw [Nat.mul_comm 2 n, Nat.mul_assoc, Nat.mul_comm 2]
    omega
theorem numB_append (a b : List Nat) : numB (a ++ b) = numB a * 2 ^ b.length + numB b := by
  have := numB_acc (numB a) b
  unfold numB at *
  rw [List.foldl_append]
  exact this
theorem numB_lt : ∀ l : List Nat, (∀ x ∈ l, x < 2) → numB l < 2 ^ l.length
  | [], _ => by simp [numB]
  | b :: l, h => by
    have h1 := numB_lt l fun x hx => h x (by simp [hx])
    have hb := h b (by simp)
    have e : numB (b :: l) = b * 2 ^ l.length + numB l := by have := numB_append [b] l; simpa [numB] using this
    rw [e, List.length_cons, Nat.pow_succ]
    have : b * 2 ^ l.length ≤ 1 * 2 ^ l.length := Nat.mul_le_mul_right _ (by omega)
    omega
theorem num_bytesJ : ∀ (j : Nat) (l : List Nat), l.length = 8 * j → (∀ x ∈ l, x < 2) → num (bytesJ j l) = numB l
  | 0, l, h, _ => by
    have : l = [] := List.eq_nil_of_length_eq_zero (by omega)
    subst this
    rfl
  | j + 1, l, h, h2 => by
    have h8 := numB_lt (l.take 8) fun x hx => h2 x (List.mem_of_mem_take hx)
    rw [List.length_take, Nat.min_eq_left (by omega)] at h8
    have ih := num_bytesJ j (l.drop 8) (by rw [List.length_drop]; omega) fun x hx => h2 x (List.mem_of_mem_drop hx)
    rw [bytesJ, num_cons, bytesJ_len, ih]
    have e := numB_append (l.take 8) (l.drop 8)
    rw [List.take_append_drop, List.length_drop, h] at e
    rw [e, show 8 * (j + 1) - 8 = 8 * j by omega, Nat.pow_mul]
    simp only [UInt8.toNat_ofNat']
    rw [Nat.mod_eq_of_lt (by omega)]
theorem bitsL_lt (n m : Nat) : ∀ x ∈ bitsL n m, x < 2 := by
  intro x hx
  unfold bitsL at hx
  rw [List.mem_map] at hx
  obtain ⟨i, _, rfl⟩ := hx
  exact Nat.mod_lt _ (by omega)
theorem bitsL_cons (n m : Nat) : bitsL n (m + 1) = n / 2 ^ m % 2 :: bitsL n m := by
  unfold bitsL
  rw [List.range_succ_eq_map, List.map_cons, List.map_map]
  congr 1
  apply List.map_congr_left
  intro i _
  simp only [Function.comp]
  congr 3
  omega
theorem numB_bits (n : Nat) : ∀ m, numB (bitsL n m) = n % 2 ^ m
  | 0 => by simp [bitsL, numB, Nat.mod_one]
  | m + 1 => by
    have e : numB (n / 2 ^ m % 2 :: bitsL n m) = n / 2 ^ m % 2 * 2 ^ (bitsL n m).length + numB (bitsL n m) := by
      have := numB_append [n / 2 ^ m % 2] (bitsL n m); simpa [numB] using this
    rw [bitsL_cons, e, bitsL_len, numB_bits n m, Nat.pow_succ, Nat.mod_mul]
    rw [Nat.mul_comm, Nat.add_comm]
def formIn (n k : Nat) : List Nat := List.replicate (k - 1) 1 ++ [0] ++ bitsL n (7 * k)
theorem formIn_len {n k : Nat} (h : 1 ≤ k) : (formIn n k).length = 8 * k := by unfold formIn; simp [bitsL_len]; omega
theorem formIn_lt (n k : Nat) : ∀ x ∈ formIn n k, x < 2 := by
  intro x hx
  unfold formIn at hx
  simp only [List.mem_append, List.mem_replicate, List.mem_singleton] at hx
  rcases hx with (⟨_, rfl⟩ | rfl) | hx
  · omega
  · omega
  · exact bitsL_lt _ _ _ hx
def formL (n k : Nat) : List UInt8 := if k = 9 then [255] ++ bytesJ 8 (bitsL n 64) else bytesJ k (formIn n k)
theorem formL_len {n k : Nat} : (formL n k).length = k := by unfold formL; split <;> simp [bytesJ_len]; omega
theorem numB_ones : ∀ k, numB (List.replicate k 1) + 1 = 2 ^ k
  | 0 => rfl
  | k + 1 => by
    have := numB_ones k
    rw [List.replicate_succ', numB_snoc, Nat.pow_succ]
    omega
theorem formL_pform (n : Nat) (hn : n < 18446744073709551616) : formL n (psize n) = pform n := by
  apply num_inj _ _ (by rw [formL_len, pform_len])
  rw [num_pform n hn]
  have h1 := psize_pos n
  by_cases h9 : psize n = 9
  · unfold formL
    rw [if_pos h9, if_pos h9, List.singleton_append, num_cons, bytesJ_len, num_bytesJ 8 _ (by rw [bitsL_len]) (bitsL_lt _ _), numB_bits]
    have : (255 : UInt8).toNat = 255 := rfl
    rw [this]
    omega
  · unfold formL
    rw [if_neg h9, if_neg h9, num_bytesJ _ _ (formIn_len h1) (formIn_lt _ _)]
    unfold formIn pword
    rw [if_neg h9, numB_append, numB_append, numB_bits, bitsL_len]
    have ho := numB_ones (psize n - 1)
    have h0 : numB [0] = 0 := rfl
    rw [h0]
    generalize numB (List.replicate (psize n - 1) 1) = y at *
    rcases psize_cases n with ⟨e, h⟩ | ⟨e, h⟩ | ⟨e, h⟩ | ⟨e, h⟩ | ⟨e, h⟩ | ⟨e, h⟩ | ⟨e, h⟩ | ⟨e, h⟩ | ⟨e, h⟩ <;> rw [e] at ho ⊢ <;> simp only [Nat.reduceSub, Nat.reducePow, Nat.reduceMul, Nat.reduceAdd, List.length_cons, List.length_nil] at ho ⊢ <;> omega
theorem fits_psize (n k : Nat) (h1 : 1 ≤ k) (h8 : k ≤ 8) : n / 2 ^ (7 * k) = 0 ↔ psize n ≤ k := by
  have hc : k = 1 ∨ k = 2 ∨ k = 3 ∨ k = 4 ∨ k = 5 ∨ k = 6 ∨ k = 7 ∨ k = 8 := by omega
  rcases psize_cases n with ⟨e, h⟩ | ⟨e, h⟩ | ⟨e, h⟩ | ⟨e, h⟩ | ⟨e, h⟩ | ⟨e, h⟩ | ⟨e, h⟩ | ⟨e, h⟩ | ⟨e, h⟩ <;> rw [e] <;> rcases hc with rfl | rfl | rfl | rfl | rfl | rfl | rfl | rfl <;> simp only [Nat.reducePow, Nat.reduceMul] <;> omega

theorem Rd.irange {w : World} {B n b off : Nat} {l : List Nat} (h : Rd w B 1 (some ⟨b, off, none⟩) n (icells l)) {k m : Nat} (hk : k + m ≤ n) : Rd w B 1 (some ⟨b, off + k, none⟩) m (icells ((l.drop k).take m)) := by
  have h1 := (h.drop (k := k) (by omega)).take (k := m) (by omega)
  rw [Nat.mul_one, Nat.mul_one] at h1
  unfold icells at *
  rw [List.map_take, List.map_drop]
  exact h1

set_option maxHeartbeats 1000000 in
theorem rbytes_any (l : List Nat) (A : Option Addr) (n c : Nat) (w : World) (hl : ∀ x ∈ l, x < 2) (hnc : n ≤ c) (hn : n ≤ 1000) (h : Rd w w.heap.size 1 A n (icells l)) :
    Calls Try.prog 47 #[.slice A n c] w (RetOwn w 5 1 (n / 8) (bcells (bytesJ (n / 8) l))) := by
  have hown := World.ownsRow_nil w w.heap.size 5 1
  have HS := Lib.hid (fun k => bytesJ_snoc k (n / 8) l)
  have HT := Lib.hid (show (bytesJ (n / 8) l).take (n / 8) = bytesJ (n / 8) l from List.take_of_length_le (by rw [bytesJ_len]; exact Nat.le_refl _))
  have H2 := Lib.hid hl
  have HL := Lib.hid (show l.length = n by have := h.1; rw [icells_len] at this; omega)
  clear hl
  go_enter Try.func47, Try.ntmps47
  go_wp2
  go_loopw [3, 4] (fun v i wr => ∃ k : Nat, k ≤ n / 8 ∧ i = .int .i64 ((8 * k : Nat) : Int) ∧ wr.ownsRow w.heap.size 5 1 v k (bcells ((bytesJ (n / 8) l).take k)) ∧ Below w.heap.size w wr) (fun _ i _ => (n + 8) - (intOf i).toNat)
  case atStart => exact ⟨0, Nat.zero_le _, rfl, hown, Below.refl _ _⟩
  case round =>
    obtain ⟨k, hk, rfl, hrow, hb⟩ := hrel
    have hs := hb.size
    by_cases hlt : 8 * k + 8 ≤ n
    · have hkn : k < n / 8 := by omega
      have r1 := (h.below hb (Nat.le_refl _)).more hb.size
      obtain ⟨b, off, rfl, _, _⟩ := h.2.2 (by omega)
      have r8 := r1.irange (k := 8 * k) (m := 8) (by omega)
      have h8 := numB_lt ((l.drop (8 * k)).take 8) fun x hx => H2.out x (List.mem_of_mem_drop (List.mem_of_mem_take hx))
      have hl8 : ((l.drop (8 * k)).take 8).length = 8 := by rw [List.length_take, List.length_drop, HL.out]; omega
      rw [hl8] at h8
      have HN := fun c => Lib.hid (rnumber_any ((l.drop (8 * k)).take 8) _ 8 c wr (fun x hx => H2.out x (List.mem_of_mem_drop (List.mem_of_mem_take hx))) r8)
      have hsn := HS.out k hkn
      generalize numB ((l.drop (8 * k)).take 8) = x at *
      have hx : x % 18446744073709551616 = x := by omega
      rw [hx] at HN
      have hub : ((UInt8.ofNat x).toNat : Int) = (x : Int) := by simp only [UInt8.toNat_ofNat']; omega
      have HUB := Lib.hid hub
      have HSN := Lib.hid hsn
      have i1 : ((8 * k : Nat) : Int) + 8 ≤ (n : Int) := by omega
      have i2 : ((8 * k : Nat) : Int) + 8 ≤ (c : Int) := by omega
      have i3 : 8 * k < c := by omega
      have i4 : (((8 * k : Nat) : Int) + 8).toNat = 8 * k + 8 := by omega
      have i5 : 8 * k + 8 - 8 * k = 8 := by omega
      have i6 : (0 : Int) ≤ ((8 * k : Nat) : Int) := by omega
      have hx256 : x < 256 := by omega
      have hx0 : (x : Int) % 256 = x := by omega
      clear h8 hx hub hsn r1 r8 h hl8
      generalize hK : 8 * k = K at *
      have HK := Lib.hid hK
      clear hK
      go_wp2_with fail
      refine (HN _).out.mono ?_
      rintro e w1 ⟨rfl, rfl⟩
      clear HN
      go_wp2_with (at_builtin; refine wpList_push eltU8 rfl (.tmp 12) (.tmp 20) rfl (W := wr) rfl hrow rfl rfl (by simp [Value.oneCell']) (by omega) (by unfold maxLen; omega) hb hs ?_; intro v' w' hown' hb' _ _)
      go_roundw
      case rel =>
        refine ⟨k + 1, by omega, ?_, ?_, hb'⟩
        · rw [show 8 * (k + 1) = K + 8 by have := HK.out; omega]; go_num
        · rw [HSN.out, bcells_append]
          simp only [bcells, List.map_cons, List.map_nil, HUB.out] at hown' ⊢
          exact hown'
      case measure => simp [intOf]; omega
    · obtain rfl : k = n / 8 := by omega
      have i1 : ¬ ((8 * (n / 8) : Nat) : Int) + 8 ≤ (n : Int) := by omega
      have i6 : (0 : Int) ≤ ((8 * (n / 8) : Nat) : Int) := by omega
      rw [HT.out] at hrow
      have i7 : ((8 * (n / 8) : Nat) : Int) ≤ 1000 := by omega
      clear hlt
      generalize 8 * (n / 8) = K at *
      go_wp2
      go_ret
      exact ⟨_, rfl, hrow, hb⟩

theorem own_cap' {w : World} {base : Nat} {e : TypeId} {size : Nat} {v : Value} {n : Nat} {xs : List Value} (h : w.ownsRow base e size v n xs) : ∃ A c, v = .slice A n c ∧ n ≤ c := by
  rcases h.2 with ⟨rfl, rfl⟩ | ⟨g, cap, cur, rfl, hb, hh, hnc, hcm, _⟩
  · exact ⟨_, _, rfl, Nat.le_refl _⟩
  · exact ⟨_, _, rfl, hnc⟩

def fitsB (n k : Nat) : Bool := if k = 9 then true else bitsFit n (7 * k)

set_option maxHeartbeats 1000000 in
theorem rform_any (n : Nat) (hn : n < 18446744073709551616) (k : Nat) (h1 : 1 ≤ k) (hk9 : k ≤ 9) (w : World) :
    Calls Try.prog 45 #[.int .u64 (n : Int), .int .i64 (k : Int)] w (RetTwo w 5 k (bcells (formL n k)) (.bool (fitsB n k))) := by
  by_cases h9 : k = 9
  · subst h9
    have HB := Lib.hid (rbits_any n hn 64 (by omega) w)
    have ef : formL n 9 = [255] ++ bytesJ 8 (bitsL n 64) := by unfold formL; rw [if_pos rfl]
    have eb : fitsB n 9 = true := by unfold fitsB; rw [if_pos rfl]
    rw [ef, eb]
    have H2 := bitsL_lt n 64
    generalize hbl : bitsL n 64 = bl at *
    have e9 : (((9 : Nat) : Int) == 9) = true := rfl
    have H2' := Lib.hid H2
    clear ef eb hbl H2
    go_enter Try.func45, Try.ntmps45
    go_wp2_with fail
    refine HB.out.mono ?_
    rintro e w1 ⟨v1, rfl, o1, b1⟩
    obtain ⟨A1, c1, rfl, z1⟩ := own_cap' o1
    have r1 := (own_rd o1).allocs (.cells #[.int .u8 255] 5)
    have ol := own_lit1 w1 5 #[.int .u8 255] 1 b1.size rfl (by unfold maxLen; omega)
    have hba := belowAlloc b1 (.cells #[.int .u8 255] 5)
    have HY := Lib.hid (rbytes_any bl A1 64 c1 _ H2'.out z1 (by omega) r1)
    clear o1 b1 HB
    go_wp2_with fail
    refine HY.out.mono ?_
    rintro e w2 ⟨v2, rfl, o2, b2⟩
    obtain ⟨A2, c2, rfl, z2⟩ := own_cap' o2
    have r2 := own_rd o2
    have ol2 := Ow.after ol b2
    have hb := belowGo hba b2
    have hs := hb.size
    clear HY o2 b2 ol hba r1
    unfold Ow at ol2
    go_wp2_with (at_builtin; refine wpList_app eltU8 rfl (.tmp 19) (.tmp 21) rfl rfl ol2 rfl r2 (bcells_one _) (by omega) (by unfold maxLen; omega) hb hs ?_; intro v3 w3 o3 b3 g3 _)
    go_ret2
    exact ⟨_, rfl, o3, b3⟩
  · have ef : formL n k = bytesJ k (formIn n k) := by unfold formL; rw [if_neg h9]
    have eb : fitsB n k = bitsFit n (7 * k) := by unfold fitsB; rw [if_neg h9]
    rw [ef, eb]
    have e9 : ((k : Int) == 9) = false := by simp; omega
    have HB := fun w => Lib.hid (rbits_any n hn (7 * k) (by omega) w)
    have H2 := Lib.hid (formIn_lt n k)
    have HI := Lib.hid (show List.replicate (k - 1) 1 ++ [0] ++ bitsL n (7 * k) = formIn n k from rfl)
    have hown := World.ownsRow_nil w w.heap.size 3 1
    have HR := Lib.hid (fun i : Nat => (List.replicate_succ' (n := i) (a := (1 : Nat))))
    clear ef eb
    go_enter Try.func45, Try.ntmps45
    go_wp2
    go_loopw [8, 9] (fun v i wr => ∃ j : Nat, j ≤ k - 1 ∧ i = .int .i64 (j : Int) ∧ wr.ownsRow w.heap.size 3 1 v j (icells (List.replicate j 1)) ∧ Below w.heap.size w wr) (fun _ i _ => k - (intOf i).toNat)
    case atStart => exact ⟨0, Nat.zero_le _, rfl, hown, Below.refl _ _⟩
    case round =>
      obtain ⟨j, hj, rfl, hrow, hb⟩ := hrel
      have hs := hb.size
      by_cases hlt : j < k - 1
      · have i1 : (j : Int) < (k : Int) - 1 := by omega
        go_wp2_with (at_builtin; refine wpList_push eltI64 rfl (.tmp 29) (.tmp 30) rfl (W := wr) rfl hrow rfl rfl (by simp [Value.oneCell']) (by omega) (by unfold maxLen; omega) hb hs ?_; intro v' w' hown' hb' _ _)
        go_roundw
        case rel =>
          refine ⟨j + 1, by omega, by go_num, ?_, hb'⟩
          rw [HR.out, icells_append]
          exact hown'
        case measure => simp [intOf]; omega
      · obtain rfl : j = k - 1 := by omega
        have i1 : ¬ ((k - 1 : Nat) : Int) < (k : Int) - 1 := by omega
        have HB' := Lib.hid ((HB wr).out)
        have HI' := HI
        have HD := Lib.hid (show formIn n k = formIn n k from rfl)
        obtain ⟨q, hq⟩ : ∃ q, q = 7 * k := ⟨_, rfl⟩
        have i2 : (7 : Int) * (k : Int) = (q : Int) := by omega
        rw [← hq] at HB' HI'
        have HQ := Lib.hid hq
        clear hq
        clear HB
        go_wp2_with fail
        refine HB'.out.mono ?_
        rintro e w1 ⟨v1, rfl, o1, b1⟩
        obtain ⟨A1, c1, rfl, z1⟩ := own_cap' o1
        have q1 : Ow _ _ _ _ _ _ _ := o1
        have hlo : ∀ g, u8.ownBlock = some g → g < wr.heap.size := fun g hg => (World.ownsRow.lt hrow g hg).2
        have hrow1 := Ow.after hrow b1
        unfold Ow at hrow1
        have hb1 := belowGo hb b1
        have hs1 := hb1.size
        clear HB' o1
        have HL := Lib.hid (show (icells (List.replicate (k - 1) 1) ++ [Value.int .i64 0]) ++ icells (bitsL n q) = icells (formIn n k) by rw [← HI'.out, icells_append, icells_append]; rfl)
        have HK8 := Lib.hid (show (k - 1 + 1 + q) / 8 = k by have := HQ.out; omega)
        have hn8 : k - 1 + 1 + q ≤ 1000 := by have := HQ.out; omega
        go_wp2_with (first
          | (at_builtin; refine wpList_push eltI64 rfl (.tmp 39) (.tmp 40) rfl (W := w1) (v := u8) rfl hrow1 rfl rfl (by simp [Value.oneCell']) (by omega) (by unfold maxLen; omega) hb1 hs1 ?_; intro v2 w2 o2 b2 g2 _; have r2 := (Ow.grown q1 g2 hlo).rd)
          | (at_builtin; refine wpList_app eltI64 rfl (.tmp 41) (.tmp 42) rfl rfl o2 rfl r2 (icells_one _) (by omega) (by unfold maxLen; omega) b2 b2.size ?_; intro v3 w3 o3 b3 g3 _; obtain ⟨A3, c3, rfl, z3⟩ := own_cap' o3)
          | fail)
        have r3 := own_rd o3
        have HY := Lib.hid (rbytes_any (formIn n k) A3 (k - 1 + 1 + q) c3 w3 H2.out z3 hn8 (by rw [← HL.out]; exact r3))
        rw [HK8.out, show k - 1 + 1 + q = k + q by omega] at HY
        clear r3 o3 o2 r2 hrow1
        refine HY.out.mono ?_
        rintro e w4 ⟨v4, rfl, o4, b4⟩
        clear HY
        go_wp2
        go_ret2
        have hb3 := belowGo b3 b4
        rw [← HQ.out]
        exact ⟨_, rfl, own_low o4 b3.size, hb3⟩

set_option maxHeartbeats 1000000 in
theorem rshortest_any (n : Nat) (hn : n < 18446744073709551616) (w : World) :
    Calls Try.prog 40 #[.int .u64 (n : Int)] w (RetOwn w 5 1 (psize n) (bcells (pform n))) := by
  have h1 := psize_pos n
  have h9 := psize_le n
  have HF := fun k h1 h9 w => Lib.hid (rform_any n hn k h1 h9 w)
  have HP := Lib.hid (formL_pform n hn)
  have hfit : ∀ k, 1 ≤ k → k ≤ 8 → fitsB n k = decide (psize n ≤ k) := fun k hk hk8 => by
    unfold fitsB bitsFit
    rw [if_neg (by omega), decide_eq_decide]
    exact fits_psize n k hk hk8
  have HFT := Lib.hid hfit
  clear hfit
  go_enter Try.func40, Try.ntmps40
  go_wp2
  go_loopw [3] (fun i wr => ∃ k : Nat, 1 ≤ k ∧ k ≤ 9 ∧ k ≤ psize n ∧ i = .int .i64 (k : Int) ∧ Below w.heap.size w wr) (fun i _ => 9 - (intOf i).toNat)
  case atStart => exact ⟨1, by omega, by omega, h1, rfl, Below.refl _ _⟩
  case round =>
    obtain ⟨k, hk1, hk9, hkp, rfl, hb⟩ := hrel
    by_cases hlt : k < 9
    · have HF' := HF k hk1 hk9 wr
      have hft := HFT.out k hk1 (by omega)
      by_cases he : psize n ≤ k
      · obtain rfl : k = psize n := by omega
        rw [decide_eq_true he] at hft
        rw [hft, HP.out] at HF'
        clear hft HF
        go_wp2_with fail
        refine HF'.out.mono ?_
        rintro e w1 ⟨v1, rfl, o1, b1⟩
        go_wp2
        go_ret
        exact ⟨_, rfl, own_low o1 hb.size, belowGo hb b1⟩
      · rw [decide_eq_false he] at hft
        rw [hft] at HF'
        clear hft HF
        go_wp2_with fail
        refine HF'.out.mono ?_
        rintro e w1 ⟨v1, rfl, o1, b1⟩
        go_wp2
        go_roundw
        case rel => exact ⟨k + 1, by omega, by omega, by omega, by go_num, belowGo hb b1⟩
        case measure => simp [intOf]; omega
    · obtain rfl : k = 9 := by omega
      have hp9 : psize n = 9 := by omega
      have HF' := HF 9 (by omega) (by omega) wr
      rw [← hp9, HP.out, hp9] at HF'
      have HP9 := Lib.hid hp9
      clear hp9 HF
      go_wp2_with fail
      refine HF'.out.mono ?_
      rintro e w1 ⟨v1, rfl, o1, b1⟩
      go_wp2
      go_ret
      rw [HP9.out]
      exact ⟨_, rfl, own_low o1 hb.size, belowGo hb b1⟩

theorem rput_any (a : List UInt8) (A : Option Addr) (n c : Nat) (x : Nat) (hx : x < 18446744073709551616) (w : World) (h : Rd w w.heap.size 1 A n (bcells a)) (hn : n + 9 ≤ 140737488355328) :
    Calls Try.prog 33 #[.slice A n c, .int .u64 (x : Int)] w (RetOwn w 5 1 (n + psize x) (bcells (a ++ pform x))) := by
  have HO := Lib.hid (rown_any a A n c w h (by omega))
  have HS := fun w => Lib.hid (rshortest_any x hx w)
  have h9 := psize_le x
  go_enter Try.func33, Try.ntmps33
  go_wp2_with fail
  refine HO.out.mono ?_
  rintro e w1 ⟨v1, rfl, o1, b1⟩
  go_wp2_with fail
  refine (HS w1).out.mono ?_
  rintro e w2 ⟨v2, rfl, o2, b2⟩
  obtain ⟨A2, c2, rfl⟩ := own_slice o2
  have r2 := own_rd o2
  have q1 := Ow.after o1 b2
  unfold Ow at q1
  have hb := belowGo b1 b2
  go_wp2_with (at_builtin; refine wpList_app eltU8 rfl (.tmp 6) (.tmp 8) rfl rfl q1 rfl r2 (bcells_one _) (by omega) (by unfold maxLen; omega) hb hb.size ?_; intro v3 w3 o3 b3 g3 _)
  go_ret
  rw [← bcells_append] at o3
  exact ⟨_, rfl, o3, b3⟩
end Go.Proofs.Ytedjolkkidciiaa
