/- Frames with bits turned, plainly: what is told of them. No condition. -/
import Derived.Test.YtmahadcohnhdkaaDoorFlip
import Derived.Test.YtmahadcohnhdkaaDoorMlBegLaw
namespace Go.Proofs.YtmahadcohnhdkaaDoor
open Go.RowKit

theorem cover_turned (x b : List UInt8) (hl : b.length = (coverC x).length) (m p : Nat) (hm : m < 4294967296) (h0 : m ≠ 0) (hp : p ≤ 8 * b.length) (hx : numL b = numL (coverC x) ^^^ (m * 2 ^ p)) : (coverC (b.take (b.length - 4)) == b) = false := by
  rw [beq_eq_false_iff_ne]
  intro e
  refine turned (coverC x) b hl.symm m p hm h0 (by omega) hx 4294967295 ?_
  rw [cover_rest, ← e, cover_rest]
theorem xor_div_pow : ∀ (n a b : Nat), (a ^^^ b) / 2 ^ n = a / 2 ^ n ^^^ b / 2 ^ n
  | 0, a, b => by simp
  | n + 1, a, b => by
    rw [Nat.pow_succ, ← Nat.div_div_eq_div_mul, xor_div_pow n a b, xor_div2, Nat.div_div_eq_div_mul, Nat.div_div_eq_div_mul]
theorem numL_drop (a : List UInt8) (n : Nat) (hn : n ≤ a.length) : numL (a.drop n) = numL a / 2 ^ (8 * n) := by
  have ea : numL a = numL (a.take n) + 256 ^ n * numL (a.drop n) := by
    have := numL_append (a.take n) (a.drop n)
    rwa [List.take_append_drop, List.length_take, Nat.min_eq_left hn] at this
  have la := numL_lt (a.take n)
  rw [List.length_take, Nat.min_eq_left hn] at la
  rw [show (256 : Nat) ^ n = 2 ^ (8 * n) by rw [Nat.pow_mul]] at ea la
  rw [ea, Nat.add_mul_div_left _ _ (Nat.two_pow_pos _), Nat.div_eq_of_lt la, Nat.zero_add]
/-- where the turned bits lie within the middle of three rows -/
theorem flip_mid {P F T b : List UInt8} {M f k : Nat} (h : Flip b (P ++ (F ++ T)) M f k) (h1 : 8 * P.length ≤ f) (h2 : f + k ≤ 8 * (P.length + F.length)) : ∃ l, b = P ++ (l ++ T) ∧ Flip l F M (f - 8 * P.length) k := by
  have hlen := h.len
  rw [List.length_append, List.length_append] at hlen
  have hx := h.num
  have e1 : b.take P.length = P := by
    have := numL_same (P ++ (F ++ T)) b P.length (by rw [List.length_append]; omega) h.len (M % 2 ^ k) f h1 hx
    rw [this, List.take_left]
  have hm : M % 2 ^ k < 2 ^ k := Nat.mod_lt _ (Nat.two_pow_pos k)
  have d1 : numL (b.drop P.length) = numL (F ++ T) ^^^ (M % 2 ^ k * 2 ^ (f - 8 * P.length)) := by
    rw [numL_drop b _ (by omega), hx, xor_div_pow, ← numL_drop (P ++ (F ++ T)) _ (by rw [List.length_append]; omega), List.drop_left]
    congr 1
    rw [show f = (f - 8 * P.length) + 8 * P.length by omega, Nat.pow_add, ← Nat.mul_assoc, Nat.mul_div_cancel _ (Nat.two_pow_pos _)]
    congr 2
    omega
  have hb1 : (b.drop P.length).length = (F ++ T).length := by rw [List.length_drop, List.length_append]; omega
  refine ⟨(b.drop P.length).take F.length, ?_, ?_, ?_⟩
  · have e2 : (b.drop P.length).drop F.length = T := by
      refine numL_inj _ _ (by rw [List.length_drop, hb1, List.length_append]; omega) ?_
      rw [numL_drop _ _ (by rw [hb1, List.length_append]; omega), d1, xor_div_pow, ← numL_drop (F ++ T) _ (by rw [List.length_append]; omega), List.drop_left]
      rw [show M % 2 ^ k * 2 ^ (f - 8 * P.length) / 2 ^ (8 * F.length) = 0 from Nat.div_eq_of_lt ?_, Nat.xor_zero]
      calc M % 2 ^ k * 2 ^ (f - 8 * P.length) < 2 ^ k * 2 ^ (f - 8 * P.length) := Nat.mul_lt_mul_of_pos_right hm (Nat.two_pow_pos _)
        _ = 2 ^ (k + (f - 8 * P.length)) := by rw [Nat.pow_add]
        _ ≤ 2 ^ (8 * F.length) := Nat.pow_le_pow_right (by decide) (by omega)
    conv => lhs; rw [← List.take_append_drop P.length b, e1]
    congr 1
    conv => lhs; rw [← List.take_append_drop F.length (b.drop P.length), e2]
  · rw [List.length_take, hb1, List.length_append]; omega
  · have := numL_cut (b.drop P.length) F.length (by rw [hb1, List.length_append]; omega)
    rw [this, d1, Nat.xor_mod_two_pow, ← numL_cut (F ++ T) F.length (by rw [List.length_append]; omega), List.take_left]
    congr 1
    refine Nat.mod_eq_of_lt ?_
    calc M % 2 ^ k * 2 ^ (f - 8 * P.length) < 2 ^ k * 2 ^ (f - 8 * P.length) := Nat.mul_lt_mul_of_pos_right hm (Nat.two_pow_pos _)
      _ = 2 ^ (k + (f - 8 * P.length)) := by rw [Nat.pow_add]
      _ ≤ 2 ^ (8 * F.length) := Nat.pow_le_pow_right (by decide) (by omega)
/-- a frame with bits turned is bad, whatever lies behind -/
theorem frGet_turned {d : Ed} (hm : mayEd d = true) {l T : List UInt8} {M f k : Nat} (h : Flip l (frameB d) M f k) (hM : M % 2 = 1) (hMl : M < 4294967296) (hk1 : 1 ≤ k) (hf : f + k ≤ 8 * (frameB d).length) : frGet (l ++ T) = (Ed.none, 0, 23) := by
  have hfl := frameB_len d
  have h8 := head8_len d
  have hll := h.len
  have ho := odd_mod hM hk1
  have hmm : M % 2 ^ k < 4294967296 := Nat.lt_of_le_of_lt (Nat.mod_le _ _) hMl
  have hx := h.num
  have hcov : frameB d = coverC (coverC (le (edB d).length 4) ++ edB d) := rfl
  generalize M % 2 ^ k = m at *
  by_cases hf2 : f < 64
  · have ht := numL_turn (frameB d) l 8 (by omega) hll m f (by omega) hx
    have ho2 := odd_mod ho (show 1 ≤ 8 * 8 - f by omega)
    have e8 : (frameB d).take 8 = coverC (le (edB d).length 4) := by rw [frame_parts, List.take_append_of_le_length (by omega), List.take_of_length_le (by omega)]
    rw [e8] at ht
    have hl8 : (l.take 8).length = 8 := by rw [List.length_take]; omega
    have hw := cover_turned _ (l.take 8) (by rw [hl8, h8]) _ f (Nat.lt_of_le_of_lt (Nat.mod_le _ _) hmm) (by omega) (by rw [hl8]; omega) ht
    rw [hl8] at hw
    unfold frGet
    rw [if_neg (by rw [List.length_append]; omega), if_pos (Or.inl (by rw [List.take_append_of_le_length (by omega)]; exact hw))]
  · have ht := numL_same (frameB d) l 8 (by omega) hll m f (by omega) hx
    have e8 : (frameB d).take 8 = coverC (le (edB d).length 4) := by rw [frame_parts, List.take_append_of_le_length (by omega), List.take_of_length_le (by omega)]
    rw [e8] at ht
    have hw := cover_turned _ l hll m f hmm (by omega) (by omega) hx
    have e12 : (l ++ T).take (12 + (edB d).length) = l := by rw [List.take_append_of_le_length (by omega), List.take_of_length_le (by omega)]
    rw [frGet_head hm (r := l.drop 8 ++ T) (by rw [← ht, ← List.append_assoc, List.take_append_drop]), if_neg (by rw [List.length_append]; omega), e12, if_pos ?_]
    rw [show 12 + (edB d).length = l.length by omega]
    exact hw
theorem repL_turned {d : Ed} (hm : mayEd d = true) : ∀ (D : List Ed) {l T : List UInt8} {M f k : Nat} (n : Nat), (∀ x ∈ D, x.fits ∧ mayEd x = true) → Flip l (frameB d) M f k → M % 2 = 1 → M < 4294967296 → 1 ≤ k → f + k ≤ 8 * (frameB d).length → (D.flatMap frameB ++ (l ++ T)).length ≤ n →
    repL n (D.flatMap frameB ++ (l ++ T)) = (D, (D.flatMap frameB).length, 23)
  | [], l, T, M, f, k, n, _, h, h1, h2, h3, h4, hn => by
    have hfl := frameB_len d
    have hll := h.len
    rw [List.flatMap_nil, List.nil_append, List.length_append] at hn
    obtain ⟨n, rfl⟩ : ∃ n', n = n' + 1 := ⟨n - 1, by omega⟩
    rw [repL_succ, List.flatMap_nil, List.nil_append, if_neg (by rw [List.length_append]; omega), frGet_turned hm h h1 h2 h3 h4, if_neg (by decide)]
    rfl
  | x :: r, l, T, M, f, k, n, hD, h, h1, h2, h3, h4, hn => by
    have hd := hD x (by simp)
    have hfl := frameB_len x
    rw [List.flatMap_cons, List.append_assoc, List.length_append] at hn
    obtain ⟨n, rfl⟩ : ∃ n', n = n' + 1 := ⟨n - 1, by omega⟩
    rw [repL_succ, List.flatMap_cons, List.append_assoc, if_neg (by rw [List.length_append]; omega), frGet_put hd.1 hd.2, if_pos rfl]
    dsimp only
    rw [List.drop_left, repL_turned hm r n (fun y hy => hD y (by simp [hy])) h h1 h2 h3 h4 (by omega), List.length_append]
/-- a manifest's bytes with bits turned within frame j -/
theorem replay_turned {D : List Ed} (h : ∀ d ∈ D, d.fits ∧ mayEd d = true) {b : List UInt8} {M f k j : Nat} (hF : Flip b (bytesM D) M f k) (hM : M % 2 = 1) (hMl : M < 4294967296) (hk1 : 1 ≤ k) (hj : j < D.length) (h1 : 8 * endD D j ≤ f) (h2 : f + k ≤ 8 * endD D (j + 1)) :
    replayM b = (D.take j, endD D j, 23) := by
  have hh := headB_len 2 0
  have e0 := endD_eq D j
  have e1 := endD_eq D (j + 1)
  have htk : D.take (j + 1) = D.take j ++ [D[j]] := by rw [List.take_add_one, List.getElem?_eq_getElem hj]; rfl
  have hsp : bytesM D = bytesM (D.take j) ++ (frameB D[j] ++ (D.drop (j + 1)).flatMap frameB) := by
    unfold bytesM
    rw [List.append_assoc]
    congr 1
    conv => lhs; rw [← List.take_append_drop j D, List.drop_eq_getElem_cons hj, List.flatMap_append, List.flatMap_cons]
  rw [htk, List.flatMap_append, List.length_append] at e1
  have e2 : ([D[j]].flatMap frameB).length = (frameB D[j]).length := by simp
  rw [e2] at e1
  rw [hsp] at hF
  have hP : (bytesM (D.take j)).length = endD D j := rfl
  obtain ⟨l, rfl, hl⟩ := flip_mid hF (by omega) (by omega)
  have hdj := h D[j] (List.getElem_mem hj)
  unfold bytesM
  rw [List.append_assoc]
  have hck : chkH (headB 2 0 ++ ((D.take j).flatMap frameB ++ (l ++ (D.drop (j + 1)).flatMap frameB))) 2 0 = 0 := by
    unfold chkH
    have : headGet (headB 2 0 ++ ((D.take j).flatMap frameB ++ (l ++ (D.drop (j + 1)).flatMap frameB))) = (2, 0, 0) := headGet_put (k := 2) (id := 0) (by decide) _
    rw [this]
    rfl
  have hdr : (headB 2 0 ++ ((D.take j).flatMap frameB ++ (l ++ (D.drop (j + 1)).flatMap frameB))).drop 16 = (D.take j).flatMap frameB ++ (l ++ (D.drop (j + 1)).flatMap frameB) := by
    rw [List.drop_append_of_le_length (by omega), List.drop_of_length_le (by omega), List.nil_append]
  unfold replayM
  rw [if_pos hck, hdr, repL_turned hdj.2 (D.take j) _ (fun x hx => h x (List.mem_of_mem_take hx)) hl hM hMl hk1 (by omega) (by simp only [List.length_append]; omega)]
  exact Prod.ext rfl (Prod.ext e0.symm rfl)
/-- bits turned within the file's head -/
theorem replay_headT {D : List Ed} {b : List UInt8} {M f k : Nat} (hF : Flip b (bytesM D) M f k) (hM : M % 2 = 1) (hMl : M < 4294967296) (hk1 : 1 ≤ k) (h2 : f + k ≤ 128) : replayM b = ([], 0, 23) := by
  have hh := headB_len 2 0
  have hF2 : Flip b ([] ++ (headB 2 0 ++ D.flatMap frameB)) M f k := hF
  obtain ⟨l, rfl, hl⟩ := flip_mid hF2 (by simp) (by simp; omega)
  have hll := hl.len
  have ho := odd_mod hM hk1
  have hmm : M % 2 ^ k < 4294967296 := Nat.lt_of_le_of_lt (Nat.mod_le _ _) hMl
  have hg : headGet (l ++ D.flatMap frameB) = (0, 0, 23) := by
    refine headGet_turned (k := 2) (id := 0) _ (by rw [List.length_append]; omega) (M % 2 ^ k) f hmm (by omega) (by omega) ?_
    rw [List.take_append_of_le_length (by omega), List.take_of_length_le (by omega)]
    exact hl.num
  have hck : chkH ([] ++ (l ++ D.flatMap frameB)) 2 0 = 23 := by
    unfold chkH
    rw [List.nil_append, hg]
    rfl
  unfold replayM
  rw [hck, if_neg (by decide)]
end Go.Proofs.YtmahadcohnhdkaaDoor
