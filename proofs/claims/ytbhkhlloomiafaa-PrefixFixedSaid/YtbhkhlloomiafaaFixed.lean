/- What the law PrefixFixed comes to: true, for every number, size and bytes. -/
import Derived.Test.YtbhkhlloomiafaaFixLaw
import Derived.Test.YtbhkhlloomiafaaPre6
namespace Go.Proofs.Ytbhkhlloomiafaa
open Go.RowKit

theorem own_cap {w : World} {base : Nat} {e : TypeId} {size : Nat} {v : Value} {n : Nat} {xs : List Value} (h : w.ownsRow base e size v n xs) : ∃ A c, v = .slice A n c ∧ n ≤ c := by
  rcases h.2 with ⟨rfl, rfl⟩ | ⟨g, cap, cur, rfl, hb, hh, hnc, hcm, _⟩
  · exact ⟨_, _, rfl, Nat.le_refl _⟩
  · exact ⟨_, _, rfl, hnc⟩
theorem Rd.btake {w : World} {B n : Nat} {A : Option Addr} {l : List UInt8} (h : Rd w B 1 A n (bcells l)) {k : Nat} (hk : k ≤ n) : Rd w B 1 A k (bcells (l.take k)) := by
  have := h.take hk
  rw [Nat.mul_one] at this
  unfold bcells at *
  rw [List.map_take]
  exact this

set_option maxRecDepth 100000 in
set_option maxHeartbeats 4000000 in
theorem fixed_walk (n : Nat) (hn : n < 18446744073709551616) (sz : Nat) (hsz : sz < 256) (l : List UInt8) (A : Option Addr) (m c : Nat) (w : World) (hmc : m ≤ c) (hm : m ≤ 140737488351232) (h : Rd w w.heap.size 1 A m (bcells l)) :
    Calls Try.prog 6 #[.int .u64 (n : Int), .int .u8 (sz : Int), .slice A m c] w fun e w' => e = .returned (.bool true) ∧ Below w.heap.size w w' := by
  have hlm : l.length = m := by have := h.1; rw [bcells_len] at this; omega
  have HW := fun w => Lib.hid (wakes_any w)
  obtain ⟨k, hkd⟩ : ∃ k, k = 1 + sz % 8 := ⟨_, rfl⟩
  obtain ⟨q, hqd⟩ : ∃ q, q = 1 + sz % 32 := ⟨_, rfl⟩
  have hk1 : 1 ≤ k := by omega
  have hk8 : k ≤ 8 := by omega
  have hq1 : 1 ≤ q := by omega
  have hq32 : q ≤ 32 := by omega
  have ek : (1 : Int) + (sz : Int) % 8 = (k : Int) := by omega
  have eq : (1 : Int) + (sz : Int) % 32 = (q : Int) := by omega
  have HLM := Lib.hid hlm
  clear hkd hqd hlm
  have esh := shr_fits n (8 * k)
  rw [← fits_mul] at esh
  have HN := fun w => Lib.hid (narrow_at n n q (narrowN n q) (narrowE n q) w rfl hn rfl rfl)
  have hni := narrow_is (n := n) hq1 hq32
  have eshq := shr_fits n q
  have ekm : (k : Int) - 1 = ((k - 1 : Nat) : Int) := by omega
  -- what is left behind the first part
  cases hf : fits n (8 * (k : Int)) with
  | false =>
    have hk9 : ((k : Int) == 8) = false := by
      rcases Nat.lt_or_ge k 8 with g | g
      · simp; omega
      · have : k = 8 := by omega
        subst this
        rw [fits_8 hn] at hf
        cases hf
    rw [hf] at esh
    obtain ⟨e1, e2⟩ := fixed_no hk1 hk8 hf
    have HF := fun w => Lib.hid (fixed_at n n k 3 [] 0 w rfl hn e1 rfl (by rw [e2]; rfl))
    clear e1 e2 hf
    go_enter Try.func6, Try.ntmps6
    go_wp2_with fail
    refine (HW w).out.mono ?_
    rintro e w1 ⟨rfl, b1⟩
    go_wp2_with fail
    refine (HF w1).out.mono ?_
    rintro e w2 ⟨v2, rfl, o2, b2⟩
    obtain ⟨A2, c2, rfl⟩ := own_slice o2
    have hb := belowGo b1 b2
    have ra := (h.below hb (Nat.le_refl _)).more hb.size
    clear o2 b1 b2
    by_cases hkm : k ≤ m
    · have ik : (k : Int) ≤ (m : Int) := by omega
      have ikc : (k : Int) ≤ (c : Int) := by omega
      have ikc' : k ≤ c := by omega
      obtain ⟨rf1, rf2, rf3⟩ := read_fits (l := l) hk1 hk8 (by rw [HLM.out]; exact hkm)
      have re := (read_whole (l := l) hk1 hk8 (by rw [HLM.out]; exact hkm)).2
      have HR := fun w r => Lib.hid (read_at l A m c k (readN l k) 0 w rfl (by rw [re]; rfl) r)
      have rt := ra.btake hkm
      obtain ⟨x, hx⟩ : ∃ x, x = readN l k := ⟨_, rfl⟩
      rw [← hx] at rf1 rf2 rf3 HR
      clear hx
      obtain ⟨e1, e2⟩ := fixed_yes hk1 hk8 rf2
      have HG := fun w => Lib.hid (fixed_at x x k 0 (l.take k) k w rfl rf1 (by rw [e1, rf3]) (by rw [List.length_take, HLM.out]; omega) (by rw [e2]; rfl))
      clear e1 e2 rf2 rf3 re
      go_wp2_with fail
      refine (HR w2 ra).out.mono ?_
      rintro e w5 ⟨rfl, b5⟩
      have rt := rt.after b5
      have hb := belowGo hb b5
      go_wp2_with fail
      refine (HG w5).out.mono ?_
      rintro e w6 ⟨v6, rfl, o6, b6⟩
      obtain ⟨A6, c6, rfl⟩ := own_slice o6
      have r6 := own_rd o6
      have rt := rt.after b6
      have hb := belowGo hb b6
      clear o6 b5 b6 HR HG ra
      have HE := fun c' => Lib.hid (equal_at (l.take k) (l.take k) A6 k c6 A k c' true w6 (beq_self_eq_true _) r6 rt)
      clear r6 rt
      go_wp2_with fail
      refine (HE _).out.mono ?_
      rintro e w7 ⟨rfl, b7⟩
      have hb := belowGo hb b7
      clear HE b7
      cases hq : fits n ((q : Nat) : Int) with
      | false =>
        rw [hq] at eshq hni
        rw [if_neg (by simp), if_neg (by simp)] at hni
        rw [hni.1, hni.2] at HN
        clear hni hq
        go_wp2_with fail
        refine (HN w7).out.mono ?_
        rintro e w8 ⟨rfl, b8⟩
        go_wp2_with fail
        refine (HW w8).out.mono ?_
        rintro e w9 ⟨rfl, b9⟩
        go_wp2
        go_ret
        exact ⟨rfl, belowGo (belowGo hb b8) b9⟩
      | true =>
        rw [hq] at eshq hni
        rw [if_pos rfl, if_pos rfl] at hni
        rw [hni.1, hni.2] at HN
        clear hni hq
        go_wp2_with fail
        refine (HN w7).out.mono ?_
        rintro e w8 ⟨rfl, b8⟩
        go_wp2_with fail
        refine (HW w8).out.mono ?_
        rintro e w9 ⟨rfl, b9⟩
        go_wp2
        go_ret
        exact ⟨rfl, belowGo (belowGo hb b8) b9⟩
    · have ik : ¬ (k : Int) ≤ (m : Int) := by omega
      clear ra
      cases hq : fits n ((q : Nat) : Int) with
      | false =>
        rw [hq] at eshq hni
        rw [if_neg (by simp), if_neg (by simp)] at hni
        rw [hni.1, hni.2] at HN
        clear hni hq
        go_wp2_with fail
        refine (HN w2).out.mono ?_
        rintro e w8 ⟨rfl, b8⟩
        go_wp2_with fail
        refine (HW w8).out.mono ?_
        rintro e w9 ⟨rfl, b9⟩
        go_wp2
        go_ret
        exact ⟨rfl, belowGo (belowGo hb b8) b9⟩
      | true =>
        rw [hq] at eshq hni
        rw [if_pos rfl, if_pos rfl] at hni
        rw [hni.1, hni.2] at HN
        clear hni hq
        go_wp2_with fail
        refine (HN w2).out.mono ?_
        rintro e w8 ⟨rfl, b8⟩
        go_wp2_with fail
        refine (HW w8).out.mono ?_
        rintro e w9 ⟨rfl, b9⟩
        go_wp2
        go_ret
        exact ⟨rfl, belowGo (belowGo hb b8) b9⟩
  | true =>
    rw [hf] at esh
    obtain ⟨e1, e2⟩ := fixed_yes hk1 hk8 hf
    have HF := fun w => Lib.hid (fixed_at n n k 0 (le n k) k w rfl hn e1 (le_len n k) (by rw [e2]; rfl))
    obtain ⟨r1, r2⟩ := read_le l hk1 hk8 hf
    have HR := fun w A c r => Lib.hid (read_at (le n k ++ l) A (k + m) c k n 0 w (by rw [r1]) (by rw [r2]; rfl) r)
    have s1 := read_short (l := (le n k).take (k - 1)) hk1 hk8 (by rw [List.length_take, le_len]; omega)
    have HS := fun w A c r => Lib.hid (read_at ((le n k).take (k - 1)) A (k - 1) c k 0 4 w (by rw [s1.1]; rfl) (by rw [s1.2]; rfl) r)
    have e3 : ((n : Int) != (n : Int)) = false := by simp
    have e4 : ((k : Int) != (k : Int)) = false := by simp
    clear e1 e2 hf r1 r2 s1
    have hk9 : ((k : Int) == 8) = true ∨ ((k : Int) == 8) = false := by cases ((k : Int) == 8) <;> simp
    rcases hk9 with hk9 | hk9
    all_goals
      go_enter Try.func6, Try.ntmps6
      go_wp2_with fail
      refine (HW w).out.mono ?_
      rintro e w1 ⟨rfl, b1⟩
      go_wp2_with fail
      refine (HF w1).out.mono ?_
      rintro e w2 ⟨v2, rfl, o2, b2⟩
      obtain ⟨A2, c2, rfl, z2⟩ := own_cap o2
      have hb := belowGo b1 b2
      have ra := (h.below hb (Nat.le_refl _)).more hb.size
      have r2 := own_rd o2
      have HC := Lib.hid (clone_any (le n k) A2 k c2 w2 r2 (by omega))
      clear o2 b1 b2
      go_wp2_with fail
      refine HC.out.mono ?_
      rintro e w3 ⟨v3, rfl, o3, b3⟩
      have ra3 := ra.after b3
      clear HC
      go_wp2_with (at_builtin; refine wpList_app eltU8 rfl (.tmp 65) (.tmp 66) rfl rfl o3 rfl ra3 (bcells_one _) (by omega) (by unfold maxLen; omega) b3 b3.size ?_; intro v4 w4 o4 b4 g4 _)
      obtain ⟨A4, c4, rfl⟩ := own_slice o4
      have r4 := own_rd o4
      rw [← bcells_append] at r4
      have ra := ra.after b4
      have r2 := r2.after b4
      have hb := belowGo hb b4
      clear o3 o4 b3 b4 g4 ra3
      refine (HR w4 _ _ r4).out.mono ?_
      rintro e w5 ⟨rfl, b5⟩
      have ra := ra.after b5
      have r2 := r2.after b5
      have hb := belowGo hb b5
      clear r4 HR b5
      have rs := r2.btake (k := k - 1) (by omega)
      have i1 : ((k - 1 : Nat) : Int) ≤ (c2 : Int) := by omega
      have i2 : k - 1 ≤ c2 := by omega
      have HS' := fun c => Lib.hid ((HS w5 A2 c rs).out)
      clear HS r2 rs
      go_wp2_with fail
      refine (HS' _).out.mono ?_
      rintro e w6 ⟨rfl, b6⟩
      have ra := ra.after b6
      have hb := belowGo hb b6
      clear HS' b6
      by_cases hkm : k ≤ m
      · have ik : (k : Int) ≤ (m : Int) := by omega
        have ikc : (k : Int) ≤ (c : Int) := by omega
        have ikc' : k ≤ c := by omega
        obtain ⟨rf1, rf2, rf3⟩ := read_fits (l := l) hk1 hk8 (by rw [HLM.out]; exact hkm)
        have re := (read_whole (l := l) hk1 hk8 (by rw [HLM.out]; exact hkm)).2
        have HR := fun w r => Lib.hid (read_at l A m c k (readN l k) 0 w rfl (by rw [re]; rfl) r)
        have rt := ra.btake hkm
        obtain ⟨x, hx⟩ : ∃ x, x = readN l k := ⟨_, rfl⟩
        rw [← hx] at rf1 rf2 rf3 HR
        clear hx
        obtain ⟨e1, e2⟩ := fixed_yes hk1 hk8 rf2
        have HG := fun w => Lib.hid (fixed_at x x k 0 (l.take k) k w rfl rf1 (by rw [e1, rf3]) (by rw [List.length_take, HLM.out]; omega) (by rw [e2]; rfl))
        clear e1 e2 rf2 rf3 re
        go_wp2_with fail
        refine (HR w6 ra).out.mono ?_
        rintro e v5 ⟨rfl, b5⟩
        have rt := rt.after b5
        have hb := belowGo hb b5
        go_wp2_with fail
        refine (HG v5).out.mono ?_
        rintro e x6 ⟨v6, rfl, o6, b6⟩
        obtain ⟨A6, c6, rfl⟩ := own_slice o6
        have r6 := own_rd o6
        have rt := rt.after b6
        have hb := belowGo hb b6
        clear o6 b5 b6 HR HG ra
        have HE := fun c' => Lib.hid (equal_at (l.take k) (l.take k) A6 k c6 A k c' true x6 (beq_self_eq_true _) r6 rt)
        clear r6 rt
        go_wp2_with fail
        refine (HE _).out.mono ?_
        rintro e w7 ⟨rfl, b7⟩
        have hb := belowGo hb b7
        clear HE b7
        cases hq : fits n ((q : Nat) : Int) with
        | false =>
          rw [hq] at eshq hni
          rw [if_neg (by simp), if_neg (by simp)] at hni
          rw [hni.1, hni.2] at HN
          clear hni hq
          go_wp2_with fail
          refine (HN w7).out.mono ?_
          rintro e w8 ⟨rfl, b8⟩
          go_wp2_with fail
          refine (HW w8).out.mono ?_
          rintro e w9 ⟨rfl, b9⟩
          go_wp2
          go_ret
          exact ⟨rfl, belowGo (belowGo hb b8) b9⟩
        | true =>
          rw [hq] at eshq hni
          rw [if_pos rfl, if_pos rfl] at hni
          rw [hni.1, hni.2] at HN
          clear hni hq
          go_wp2_with fail
          refine (HN w7).out.mono ?_
          rintro e w8 ⟨rfl, b8⟩
          go_wp2_with fail
          refine (HW w8).out.mono ?_
          rintro e w9 ⟨rfl, b9⟩
          go_wp2
          go_ret
          exact ⟨rfl, belowGo (belowGo hb b8) b9⟩
      · have ik : ¬ (k : Int) ≤ (m : Int) := by omega
        clear ra
        cases hq : fits n ((q : Nat) : Int) with
        | false =>
          rw [hq] at eshq hni
          rw [if_neg (by simp), if_neg (by simp)] at hni
          rw [hni.1, hni.2] at HN
          clear hni hq
          go_wp2_with fail
          refine (HN w6).out.mono ?_
          rintro e w8 ⟨rfl, b8⟩
          go_wp2_with fail
          refine (HW w8).out.mono ?_
          rintro e w9 ⟨rfl, b9⟩
          go_wp2
          go_ret
          exact ⟨rfl, belowGo (belowGo hb b8) b9⟩
        | true =>
          rw [hq] at eshq hni
          rw [if_pos rfl, if_pos rfl] at hni
          rw [hni.1, hni.2] at HN
          clear hni hq
          go_wp2_with fail
          refine (HN w6).out.mono ?_
          rintro e w8 ⟨rfl, b8⟩
          go_wp2_with fail
          refine (HW w8).out.mono ?_
          rintro e w9 ⟨rfl, b9⟩
          go_wp2
          go_ret
          exact ⟨rfl, belowGo (belowGo hb b8) b9⟩
end Go.Proofs.Ytbhkhlloomiafaa
