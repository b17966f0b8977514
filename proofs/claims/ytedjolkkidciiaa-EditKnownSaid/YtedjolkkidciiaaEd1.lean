/- Package edit: the reader's number and text, by panics. For every bytes. -/
import Derived.Test.YtedjolkkidciiaaEdLaw
import Derived.Test.YtedjolkkidciiaaGP
import Derived.Test.YtedjolkkidciiaaGB
namespace Go.Proofs.Ytedjolkkidciiaa
open Go.RowKit
attribute [local go_sem] Oper.semAt_some

/-- an error of the package, thrown -/
@[reducible] def thrown (e : Nat) : Ending := .panicked [{ v := .iface 29 (.int .i64 (e : Int)), recovered := false }]
/-- the reader r stands before the bytes l -/
def Stands (w : World) (B r : Nat) (l : List UInt8) : Prop := ∃ A n c, Blk w r 58 #[.slice A n c] ∧ Rd w B 1 A n (bcells l) ∧ n ≤ c
theorem grown_refl (w : World) (row : Option Nat) : w.grownBy w row := ⟨rfl, rfl, rfl, Nat.le_refl _, fun _ _ _ => rfl⟩
set_option maxRecDepth 100000 in
theorem run_lo (W : World) (q : IntKind) {A : Option Addr} {n c k : Nat} (hk : k ≤ n) (_hc : n ≤ c) : (Instr.sliceAt 22 (.slice A n c) (some (.int q (k : Int))) none none).run Try.prog W = .ok (.slice (cutA A c k) (n - k) (c - k)) W := by
  have e2 : (sizeOf (Try.prog.elem 22)).run Try.prog W = .ok 1 W := run_sizeOf W (i := (Try.prog.info? 5).get!) (by kernel_rfl)
  rw [run_sliceAt_slice W _ _ _ _ _ (by kernel_rfl), run_slice_l W 22 _ _ _ (by kernel_rfl) q (k : Int) (by omega) (by omega), e2]
  simp only [Result.andThen, sliced, Int.toNat_natCast]
  rfl
theorem Stands.cut {w : World} {B r n c k : Nat} {A : Option Addr} {l : List UInt8} (q : Blk w r 58 #[.slice A n c]) (hr : Rd w B 1 A n (bcells l)) (hnc : n ≤ c) (hk : k ≤ n) (hB : B ≤ r) : Stands (w.setCell ⟨r, 0, none⟩ (.slice (cutA A c k) (n - k) (c - k))) B r (l.drop k) := by
  refine ⟨cutA A c k, n - k, c - k, ?_, ?_, by omega⟩
  · have := q.set_ 0 (.slice (cutA A c k) (n - k) (c - k))
    exact this
  · have h1 := hr.grown (grown_set w ⟨r, 0, none⟩ (.slice (cutA A c k) (n - k) (c - k))) (by have := q.lt; omega) (fun g hg => by injection hg with hg; subst hg; exact hB)
    have := h1.cut hnc (i := k) (k := n) hk (Nat.le_refl _)
    rwa [List.take_of_length_le (l := l) (by have := hr.1; rw [bcells_len] at this; omega)] at this
/-- a reading: what comes back of it, or what is thrown -/
def RetRd {α : Type} (w : World) (B r : Nat) (x : Rdr α) (v : α → Value) (e : Ending) (w' : World) : Prop :=
  match x with
  | .ok (a, l) => e = .returned (v a) ∧ Stands w' B r l ∧ w.grownBy w' (some r)
  | .error c => e = thrown c ∧ w.grownBy w' (some r)

set_option maxRecDepth 100000 in
set_option maxHeartbeats 1000000 in
theorem number_any (least most : Nat) (l : List UInt8) (B r : Nat) (w : World) (h : Stands w B r l) (hB : B ≤ r) :
    Calls Try.prog 36 #[.pointer (some ⟨r, 0, none⟩), .int .u64 (least : Int), .int .u64 (most : Int)] w (RetRd w B r (rdNum least most l) fun n => .int .u64 (n : Int)) := by
  obtain ⟨A, n, c, q, hr, hnc⟩ := h
  have hrn := hr.more (show B ≤ w.heap.size by have := q.lt; omega)
  have HG := Lib.hid (get_any l A n c w hnc hrn)
  have hlen := hr.1
  rw [bcells_len, Nat.mul_one] at hlen
  have c0 : w.cell? ⟨r, 0, none⟩ = some (.slice A n c) := q.cell 0
  have f0 := q.frozen 0
  rcases getP_any l with ⟨h0, h1, h2, h3⟩ | ⟨h0, h1, h2⟩
  · have hx : rdNum least most l = if (getP l).1 < least ∨ most < (getP l).1 then .error 5 else .ok ((getP l).1, l.drop (getP l).2.1) := by unfold rdNum; rw [if_pos h0]
    rw [h0] at HG
    generalize (getP l).1 = x at *
    generalize (getP l).2.1 = k at *
    by_cases hlo : x < least
    · rw [if_pos (Or.inl hlo)] at hx
      rw [hx]
      clear hx h3
      go_enter Try.func36, Try.ntmps36
      go_wp2_with fail
      refine HG.out.mono ?_
      rintro e w1 ⟨rfl, rfl⟩
      go_wp2_with fail
      exact ⟨rfl, rfl, grown_refl _ _⟩
    · by_cases hhi : most < x
      · rw [if_pos (Or.inr hhi)] at hx
        rw [hx]
        clear hx h3
        go_enter Try.func36, Try.ntmps36
        go_wp2_with fail
        refine HG.out.mono ?_
        rintro e w1 ⟨rfl, rfl⟩
        go_wp2_with fail
        exact ⟨rfl, rfl, grown_refl _ _⟩
      · rw [if_neg (by omega)] at hx
        rw [hx]
        have hkn : k ≤ n := by omega
        have hkc : k ≤ c := by omega
        have hki : (k : Int) ≤ (n : Int) := by omega
        have HLO := fun W => Lib.hid (run_lo W .i64 (A := A) hkn hnc)
        have hst := Stands.cut q hr hnc hkn hB
        have HST := Lib.hid hst
        have hgr := grown_set w ⟨r, 0, none⟩ (.slice (cutA A c k) (n - k) (c - k))
        have HGR := Lib.hid hgr
        clear hx h3 hst hgr
        go_enter Try.func36, Try.ntmps36
        go_wp2_with fail
        refine HG.out.mono ?_
        rintro e w1 ⟨rfl, rfl⟩
        have hlo := fun W => (HLO W).out
        go_wp2_with fail
        exact bodyPost_ret (results_tmp rfl _ _ _) rfl ⟨rfl, HST.out, HGR.out⟩
  · have hx : rdNum least most l = .error (getP l).2.2 := by unfold rdNum; rw [if_neg (by omega)]
    rw [hx]
    have h9 : ¬ (((getP l).2.2 : Int) = 0) := by omega
    generalize (getP l).1 = x at *
    generalize (getP l).2.1 = k at *
    generalize (getP l).2.2 = z at *
    clear hx
    go_enter Try.func36, Try.ntmps36
    go_wp2_with fail
    refine HG.out.mono ?_
    rintro e w1 ⟨rfl, rfl⟩
    go_wp2_with fail
    exact ⟨rfl, rfl, grown_refl _ _⟩

set_option maxRecDepth 100000 in
set_option maxHeartbeats 1000000 in
theorem text_any (m : Nat) (l : List UInt8) (B r : Nat) (w : World) (h : Stands w B r l) (hB : B ≤ r) :
    Calls Try.prog 35 #[.pointer (some ⟨r, 0, none⟩), .int .u64 (m : Int)] w (RetRd w B r (rdText m l) fun b => .string ⟨b.toArray⟩) := by
  obtain ⟨A, n, c, q, hr, hnc⟩ := h
  have hlen := hr.1
  rw [bcells_len, Nat.mul_one] at hlen
  have hmx := hr.2.1
  unfold maxLen at hmx
  have c0 : w.cell? ⟨r, 0, none⟩ = some (.slice A n c) := q.cell 0
  have f0 := q.frozen 0
  by_cases hn : n < m
  · have hx : rdText m l = .error 4 := by unfold rdText; rw [if_pos (by omega)]
    rw [hx]
    have hni : (n : Int) < (m : Int) := by omega
    clear hx
    go_enter Try.func35, Try.ntmps35
    go_wp2_with fail
    exact ⟨rfl, rfl, grown_refl _ _⟩
  · have hx : rdText m l = .ok (l.take m, l.drop m) := by unfold rdText; rw [if_neg (by omega)]
    rw [hx]
    have hni : ¬ (n : Int) < (m : Int) := by omega
    have hkn : m ≤ n := by omega
    have hmi : (m : Int) ≤ (n : Int) := by omega
    have hmc : (m : Int) ≤ (c : Int) := by omega
    have hmc2 : m ≤ c := by omega
    have hlo := fun W => run_lo W .u64 (A := A) hkn hnc
    have hst := Stands.cut q hr hnc hkn hB
    have HST := Lib.hid hst
    have hgr := grown_set w ⟨r, 0, none⟩ (.slice (cutA A c m) (n - m) (c - m))
    have HGR := Lib.hid hgr
    have r1 : Rd w B 1 A m (bcells (l.take m)) := hr.btake hkn
    obtain ⟨S, hS⟩ : ∃ S : ByteArray, S = ⟨(l.take m).toArray⟩ := ⟨_, rfl⟩
    have hcv : ∀ c, (convert 22 9 (.slice A m c)).run Try.prog w = .ok (.string S) w := fun c => by
      rw [hS]; exact run_conv (P := Try.prog) Try.underlying22 Try.underlying5 Try.underlying9 c r1
    have HS := Lib.hid hS
    clear hx hst hgr hS r1
    go_enter Try.func35, Try.ntmps35
    go_wp2_with fail
    exact bodyPost_ret (results_tmp rfl _ _ _) rfl ⟨by rw [HS.out]; rfl, HST.out, HGR.out⟩
end Go.Proofs.Ytedjolkkidciiaa
