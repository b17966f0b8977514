/- RecordRows: true. No condition but the tables. -/
import Derived.Test.YtlnidmjnomoddaaDoorRecRow
import Derived.Test.YtlnidmjnomoddaaDoorRecT
import Derived.Test.YtlnidmjnomoddaaDoorLowHigh
import Derived.Test.YtlnidmjnomoddaaDoorCrcR6
namespace Go.Proofs.YtlnidmjnomoddaaDoor
open Go.RowKit

theorem Tryd.infoI64 : (Tryd.prog.info? 3).map (fun i => (i.zero, i.size, i.bytes)) = some (some (.int .i64 0), 1, 8) := by kernel_rfl
theorem eltI64 : Elt Tryd.prog 48 3 (.int .i64 0) 1 8 := ⟨Tryd.underlying48, Tryd.infoI64, rfl, by omega⟩
def ecells (l : List RecX) (j : Nat) : List Value := (List.range j).map fun i => .int .i64 (endsX l (i + 1) : Int)
theorem ecells_succ (l : List RecX) (j : Nat) : ecells l j ++ [.int .i64 (endsX l (j + 1) : Int)] = ecells l (j + 1) := by unfold ecells; rw [List.range_succ, List.map_append]; rfl
theorem ecells_get (l : List RecX) {i j : Nat} (h : i < j) : (ecells l j)[i]? = some (.int .i64 (endsX l (i + 1) : Int)) := by unfold ecells; simp [h]
/-- two rows of a call's own that do not share a block -/
def Apart (u v : Value) : Prop := ∀ g, u.ownBlock = some g → v.ownBlock ≠ some g
theorem Apart.symm {u v : Value} (h : Apart u v) : Apart v u := fun g h1 h2 => h g h2 h1
theorem Ow.apart {w w' : World} {base size n : Nat} {e : TypeId} {u v : Value} {xs : List Value} (h : Ow w base e size v n xs) (hg : w.grownBy w' u.ownBlock) (ha : Apart u v) : Ow w' base e size v n xs :=
  World.ownsRow.kept h hg (by
    cases hv : v.ownBlock with
    | none => exact .inl rfl
    | some g =>
      right
      intro e'
      exact ha g e'.symm hv)
theorem Apart.moved {w : World} {base size n k : Nat} {e : TypeId} {u u' v : Value} {xs : List Value} (h : Ow w base e size v n xs) (ha : Apart u v) (hk : w.heap.size ≤ k) (hu : u'.ownBlock = u.ownBlock ∨ u'.ownBlock = some k) : Apart u' v := by
  intro g h1 h2
  rcases hu with hu | hu
  · exact ha g (hu ▸ h1) h2
  · have := Ow.hi h g h2
    rw [hu] at h1
    injection h1
    omega
theorem endsX_le (l : List RecX) (j : Nat) : endsX l j ≤ 1113 * j := allX_le _ (by rw [List.length_take]; omega)

set_option maxRecDepth 100000 in
set_option maxHeartbeats 4000000 in
theorem rows_walk (l : List RecX) (A : Option Addr) (n c : Nat) (kc : Nat) (hkc : kc < 65536) (w : World) (hT : TabR w) (hn : l.length = n) (hl : Rd w w.heap.size 6 A n (l.flatMap RecX.cells)) (hok : ∀ x ∈ l, x.ok w) :
    Calls Tryd.prog 7 #[.slice A n c, .int .u16 (kc : Int)] w fun e w' => e = .returned (.bool true) ∧ Below w.heap.size w w' := by
  obtain ⟨M, hM⟩ : ∃ M, M = min n 12 := ⟨_, rfl⟩
  have hMn : M ≤ n := by omega
  have hM12 : M ≤ 12 := by omega
  have HM := Lib.hid hM
  have HN := Lib.hid hn
  have HOK := Lib.hid hok
  clear hM hn hok
  go_enter Tryd.func7, Tryd.ntmps7
  go_wp2_with fail
  go_loopw [5, 6, 7, 8, 9] (fun va ve i _ _ wr => ∃ j : Nat, j ≤ M ∧ i = .int .i64 (j : Int) ∧ wr.ownsRow w.heap.size 5 1 va (endsX l j) (bcells (allX (l.take j))) ∧ wr.ownsRow w.heap.size 3 1 ve j (ecells l j) ∧ Apart va ve ∧ Below w.heap.size w wr) (fun _ _ i _ _ _ => M - (intOf i).toNat)
  case atStart => exact ⟨0, by omega, rfl, World.ownsRow_nil _ _ _ _, World.ownsRow_nil _ _ _ _, fun _ h => (by cases h), Below.refl _ _⟩
  case round =>
    obtain ⟨j, hj, rfl, oa, oe, hap, hbz⟩ := hrel
    have hjm12 := HM.out
    by_cases hjM : j < M
    · have i1 : (j : Int) < (n : Int) := by omega
      have i2 : (j : Int) < 12 := by omega
      have i3 : j < n := by omega
      obtain ⟨b, off, rfl, _, _⟩ := hl.2.2 (by omega)
      have hjl : j < l.length := by rw [HN.out]; omega
      obtain ⟨x, hx⟩ : ∃ x, x = l[j]'hjl := ⟨_, rfl⟩
      have hxo := HOK.out x (by rw [hx]; exact List.getElem_mem _)
      obtain ⟨xq, xs, xo, ra, rb, xn, xm⟩ := hxo
      have hg := fun t ht => recs_get l (i := j) (j := t) hjl ht
      have rlz := (hl.below hbz (Nat.le_refl _)).more hbz.size
      have hc0 : wr.cell? ⟨b, off + j * 6, none⟩ = some (.int .u64 (x.q : Int)) := rlz.cell rfl (by omega) ((hg 0 (by omega)).trans (by rw [← hx]; rfl))
      have hc1 : wr.cell? ⟨b, off + j * 6 + 1, none⟩ = some (.int .i64 x.k) := (Nat.add_assoc off (j * 6) 1) ▸ rlz.cell rfl (by omega) ((hg 1 (by omega)).trans (by rw [← hx]; rfl))
      have hc2 : wr.cell? ⟨b, off + j * 6 + 2, none⟩ = some (.slice x.A x.n x.c) := (Nat.add_assoc off (j * 6) 2) ▸ rlz.cell rfl (by omega) ((hg 2 (by omega)).trans (by rw [← hx]; rfl))
      have hc3 : wr.cell? ⟨b, off + j * 6 + 3, none⟩ = some (.slice x.B x.m x.d) := (Nat.add_assoc off (j * 6) 3) ▸ rlz.cell rfl (by omega) ((hg 3 (by omega)).trans (by rw [← hx]; rfl))
      have hc4 : wr.cell? ⟨b, off + j * 6 + 4, none⟩ = some (.int .u32 (x.s : Int)) := (Nat.add_assoc off (j * 6) 4) ▸ rlz.cell rfl (by omega) ((hg 4 (by omega)).trans (by rw [← hx]; rfl))
      have hc5 : wr.cell? ⟨b, off + j * 6 + 5, none⟩ = some (.int .u32 (x.o : Int)) := (Nat.add_assoc off (j * 6) 5) ▸ rlz.cell rfl (by omega) ((hg 5 (by omega)).trans (by rw [← hx]; rfl))
      have hes := endsX_succ hjl
      have has := allX_succ hjl
      rw [← hx] at hes has
      have HES := Lib.hid hes
      have HAS := Lib.hid has
      have HMd := Lib.hid (made_any x.q x.k x.a x.b x.A x.n x.c x.B x.m x.d x.s x.o wr xn xm w.heap.size hbz.size (ra.below hbz (Nat.le_refl _)) (rb.below hbz (Nat.le_refl _)) xq xs xo)
      clear rlz hg hes has hx hjm12
      unfold recV at HMd
      go_wp2_with fail
      refine HMd.out.mono ?_
      rintro e w1 ⟨Ak, ck, Bk, dk, rfl, hck, hdk, rk, rv, b1⟩
      clear hc0 hc1 hc2 hc3 hc4 hc5 HMd
      have oa := Ow.after oa b1
      have oe := Ow.after oe b1
      have hbz := hbz.trans (b1.mono hbz.size)
      clear b1
      have hmay := made_may x.q x.k x.a x.b x.s x.o
      have hT1 := hT.below hbz hT.1.1 hT.2.1
      have HPt := Lib.hid (putR_yes (seqM x.q) (kindM x.k) (keyM x.a) (valM x.k x.b) Ak _ ck Bk _ dk (segM x.s) (offM x.s x.o) w1 hT1 hmay rk.1 rv.1)
      have hrl := x.run_len
      have hrn : 25 + (keyM x.a).length + (valM x.k x.b).length = x.run.length := by unfold RecX.run; rw [runR_len]
      rw [hrn, show runR (seqM x.q) (kindM x.k) (keyM x.a) (valM x.k x.b) (segM x.s) (offM x.s x.o) = x.run from rfl] at HPt
      unfold recV at HPt ⊢
      have hel := endsX_le l j
      have hes := HES.out
      have has := HAS.out
      rw [hes] at hes
      clear rk rv hmay hrn xq xs xo ra rb xn xm hck hdk hes
      generalize hRR : x.run = R at *
      obtain ⟨L, hL⟩ : ∃ L, L = R.length := ⟨_, rfl⟩
      rw [← hL] at HPt hrl HES
      have HL := Lib.hid hL
      clear hRR hL has
      generalize seqM x.q = m1 at *
      generalize kindM x.k = m2 at *
      generalize segM x.s = m3 at *
      generalize offM x.s x.o = m4 at *
      generalize (keyM x.a).length = m5 at *
      generalize (valM x.k x.b).length = m6 at *
      go_wp2_with fail
      refine HPt.out.mono ?_
      rintro e w2 ⟨v7, rfl, o7, b2⟩
      obtain ⟨g7, c7, rfl, hc7, _⟩ := own_ptr o7 (by omega)
      have r7 := own_rd o7
      have oa := Ow.after oa b2
      have oe := Ow.after oe b2
      have hbz := hbz.trans (b2.mono hbz.size)
      have i4 : ((L : Int) == 0) = false := by simp; omega
      clear o7 b2 HPt hT1
      go_upto_region 11 with (fail)
      go_wp2_with (first
        | (at_builtin; refine wpList_app eltU8 rfl (.tmp 45) (.tmp 46) rfl (v := u5) rfl oa rfl r7 (bcells_one R) (by omega) (by unfold maxLen; omega) (Below.refl _ _) hbz.size ?_; intro va w3 oa3 ba ga hga; have oe3 := Ow.apart oe ga hap; have hap3 := Apart.moved oe hap (Nat.le_refl _) hga; have hbz3 := below_of_grown hbz hbz.size oa ga; obtain ⟨gA, cA, rfl, hcA, _⟩ := own_ptr oa3 (by omega))
        | (at_builtin; refine wpList_push eltI64 rfl (.tmp 48) (.tmp 51) rfl (W := w3) (v := u6) rfl oe3 rfl rfl (by simp [Value.oneCell']) (by omega) (by unfold maxLen; omega) hbz3 hbz3.size ?_; intro ve w4 oe4 b4 ge hge))
      have oa3 : Ow w3 w.heap.size 5 1 (.slice (some ⟨gA, 0, none⟩) (endsX l j + L) cA) (endsX l (j + 1)) (bcells (allX (l.take (j + 1)))) := by
        rw [HAS.out, bcells_append, HES.out]
        exact oa3
      have hec := ecells_succ l j
      have oa4 := Ow.apart oa3 ge hap3.symm
      have hap4 := (Apart.moved oa3 hap3.symm (Nat.le_succ _) hge).symm
      have oe5 : Ow w4 w.heap.size 3 1 ve (j + 1) (ecells l (j + 1)) := by
        rw [← hec, HES.out]
        exact oe4
      clear oe4 ge hge oa3 oe3 hap3 hbz3 hec
      go_wp2_with fail
      go_roundw
      case rel => exact ⟨j + 1, by omega, by go_num, oa4, oe5, hap4, b4⟩
      case measure => simp [intOf]; omega
    · by_cases hjn : j < n
      · have i1 : (j : Int) < (n : Int) := by omega
        have i2 : ¬ (j : Int) < 12 := by omega
        have hMj : M = j := by omega
        clear hjm12
        subst hMj
        obtain ⟨A1, c1, rfl, hc1⟩ := own_cap oa
        obtain ⟨A2, c2, rfl, hc2⟩ := own_cap oe
        have rA := own_rd oa
        have rE := own_rd oe
        have hT1 := hT.below hbz hT.1.1 hT.2.1
        have heE := endsX_le l M
        have HMO := fun i (hi : i < M) => Lib.hid (endsX_mono2 (l := l) (M := M) (by rw [HN.out]; omega) (M - i) i (by omega))
        obtain ⟨E, hE⟩ : ∃ E, E = endsX l M := ⟨_, rfl⟩
        rw [← hE] at rA hc1 heE HMO ⊢
        obtain ⟨kk, hkk⟩ : ∃ k, k = kc % (E + 1) := ⟨_, rfl⟩
        have hkE : kk ≤ E := by have := Nat.mod_lt kc (show 0 < E + 1 by omega); omega
        have ekk : (kc : Int) % ((E : Int) + 1) = (kk : Int) := by rw [hkk]; simp
        have HKK := Lib.hid ekk
        have HE := Lib.hid hE
        have i6 : (((E : Int) + 1) == 0) = false := by simp; omega
        have h0k : endsX l 0 ≤ kk := Nat.zero_le _
        clear hkk ekk hE oa oe hap
        go_wp2_with fail
        rw [HKK.out]
        generalize wr = wo at *
        go_loopw [11, 12, 13, 14, 15, 16, 17] (fun at_ i _ _ _ _ _ wz => ∃ j : Nat, j ≤ M ∧ i = .int .i64 (j : Int) ∧ at_ = .int .i64 (endsX l j : Int) ∧ endsX l j ≤ kk ∧ Below wo.heap.size wo wz) (fun _ i _ _ _ _ _ _ => M - (intOf i).toNat)
        case atStart => exact ⟨0, by omega, rfl, rfl, h0k, Below.refl _ _⟩
        case round =>
          obtain ⟨j, hj, rfl, rfl, hek, hbq⟩ := hrel
          have r1 := (rA.below hbq (Nat.le_refl _)).more hbq.size
          have hT2 := hT1.below hbq hT1.1.1 hT1.2.1
          have hb0 := hbz.trans (hbq.mono hbz.size)
          have rs := r1.cut hc1 hek hkE
          have hs1 := fun W => run_lh W (A := A1) (n := E) (c := c1) hek (show kk ≤ c1 by omega) (endsX l j : Int) (kk : Int) rfl rfl
          have hlj := fun (hjM : j < M) => (show j < l.length by rw [HN.out]; omega)
          by_cases hjM : j < M
          · have i7 : (j : Int) < (M : Int) := by omega
            obtain ⟨b2, off2, rfl, _, _⟩ := rE.2.2 (by omega)
            have rEz := rE.below hbq (Nat.le_refl _)
            have hce := rEz.cell rfl (by omega) (ecells_get l hjM)
            have hes := endsX_succ (hlj hjM)
            have hrn := fun x : RecX => x.run_len
            have hnl : M ≤ l.length := by rw [HN.out]; exact hMn
            by_cases hkt : kk < endsX l (j + 1)
            · have hS : getS (((allX (l.take M)).take kk).drop (endsX l j)) = (0, 22) := by
                rw [seg_torn2 hnl hjM hek hkt]
                exact getS_torn (made_may _ _ _ _ _ _) (by rw [← runR_len]; exact (by show kk - endsX l j < (l[j]'(hlj hjM)).run.length; omega))
              have HG := Lib.hid (getR_none (((allX (l.take M)).take kk).drop (endsX l j)) (cutA A1 c1 (endsX l j)) (kk - endsX l j) (c1 - endsX l j) wr hT2 (by omega) rs 0 22 hS (by decide))
              unfold RetNone recV at HG
              have i8 : (kk : Int) < (endsX l (j + 1) : Int) := by omega
              have hge := ecells_get l hjM
              clear hS hes hrn hce
              generalize endsX l (j + 1) = nx at *
              generalize endsX l j = at_ at *
              go_wp2_with fail
              refine HG.out.mono ?_
              rintro e w5 ⟨rfl, b5⟩
              have hT3 := hT2.after b5
              have hb0 := hb0.trans (b5.mono hb0.size)
              have hbq := hbq.trans (b5.mono hbq.size)
              have rEz := rE.below hbq (Nat.le_refl _)
              clear b5 HG
              go_upto_region 19 with (fail)
              have hT3 := hT3.alloc (.cells #[.int .u64 0, .int .i64 0, .slice none 0 0, .slice none 0 0, .int .u32 0, .int .u32 0] 28)
              have hb0 := hb0.alloc hb0.size (.cells #[.int .u64 0, .int .i64 0, .slice none 0 0, .slice none 0 0, .int .u32 0, .int .u32 0] 28)
              have rEz := rEz.alloc hbq.size (.cells #[.int .u64 0, .int .i64 0, .slice none 0 0, .slice none 0 0, .int .u32 0, .int .u32 0] 28)
              generalize w5.alloc (.cells #[.int .u64 0, .int .i64 0, .slice none 0 0, .slice none 0 0, .int .u32 0, .int .u32 0] 28) = w6 at *
              have hce := rEz.cell rfl (by omega) hge
              go_wp2_with fail
              refine (knows_any _ hT3).mono ?_
              rintro e w7 ⟨rfl, b7⟩
              go_wp2_with fail
              go_ret
              exact ⟨rfl, hb0.trans (b7.mono hb0.size)⟩
            · have hnx : endsX l (j + 1) ≤ kk := by omega
              obtain ⟨r, hseg⟩ := seg_more2 hnl hjM hnx
              obtain ⟨x, hx⟩ : ∃ x, x = l[j]'(hlj hjM) := ⟨_, rfl⟩
              have hxo := HOK.out x (by rw [hx]; exact List.getElem_mem _)
              rw [← hx] at hseg hes
              have hmay := made_may x.q x.k x.a x.b x.s x.o
              rw [hseg] at rs
              have hrl := x.run_len
              have HG := Lib.hid (getR_run2 (x.run ++ r) (cutA A1 c1 (endsX l j)) (kk - endsX l j) (c1 - endsX l j) wr hT2 (by omega) rs (seqM x.q) (kindM x.k) (keyM x.a) (valM x.k x.b) (segM x.s) (offM x.s x.o) x.run.length r hmay rfl (by unfold RecX.run; rw [runR_len]))
              unfold RetRec2 recV at HG
              have i8 : ¬ (kk : Int) < (endsX l (j + 1) : Int) := by omega
              have hge := ecells_get l hjM
              have HSeg := Lib.hid (seg_own2 hnl hjM)
              have HX := Lib.hid hx
              have HES := Lib.hid hes
              have HXO := Lib.hid hxo
              clear hrn hce hseg hx hes hxo hmay
              obtain ⟨nx, hnx2⟩ : ∃ a, a = endsX l (j + 1) := ⟨_, rfl⟩
              obtain ⟨at_, hat⟩ : ∃ a, a = endsX l j := ⟨_, rfl⟩
              rw [← hnx2] at i8 hge hnx HES
              rw [← hat] at HG hs1 hek HES ⊢
              have HNX := Lib.hid hnx2
              have HAT := Lib.hid hat
              obtain ⟨L, hL⟩ : ∃ L, L = x.run.length := ⟨_, rfl⟩
              rw [← hL] at HG hrl HES
              have HL := Lib.hid hL
              clear hnx2 hat hL rs
              go_wp2_with fail
              refine HG.out.mono ?_
              rintro e w5 ⟨gK, gV, rfl, rK, rV, bK, bV, b5⟩
              have hT3 := hT2.after b5
              have hb0 := hb0.trans (b5.mono hb0.size)
              have hbq := hbq.trans (b5.mono hbq.size)
              have rEz := rE.below hbq (Nat.le_refl _)
              clear b5 HG
              obtain ⟨xq, xs, xo, ra, rb, xn, xm⟩ := HXO.out
              have HMd := fun W hB r1 r2 => Lib.hid (made_any x.q x.k x.a x.b x.A x.n x.c x.B x.m x.d x.s x.o W xn xm w.heap.size hB r1 r2 xq xs xo)
              have HSm := fun A c B d A' c' B' d' W h1 h2 h3 h4 => Lib.hid (sameR_any (seqM x.q) (kindM x.k : Int) (keyM x.a) (valM x.k x.b) A (keyM x.a).length c B (valM x.k x.b).length d (segM x.s) (offM x.s x.o) (seqM x.q) (kindM x.k : Int) (keyM x.a) (valM x.k x.b) A' (keyM x.a).length c' B' (valM x.k x.b).length d' (segM x.s) (offM x.s x.o) W h1 h2 h3 h4)
              rw [show sameR (seqM x.q) (kindM x.k : Int) (keyM x.a) (valM x.k x.b) (segM x.s) (offM x.s x.o) (seqM x.q) (kindM x.k : Int) (keyM x.a) (valM x.k x.b) (segM x.s) (offM x.s x.o) = true by unfold sameR; simp] at HSm
              have hrn : 25 + (keyM x.a).length + (valM x.k x.b).length = L := by rw [HL.out]; unfold RecX.run; rw [runR_len]
              have HPt := fun A c B d W hT' r1 r2 => Lib.hid (putR_yes (seqM x.q) (kindM x.k) (keyM x.a) (valM x.k x.b) A _ c B _ d (segM x.s) (offM x.s x.o) W hT' (made_may x.q x.k x.a x.b x.s x.o) r1 r2)
              rw [hrn, show runR (seqM x.q) (kindM x.k) (keyM x.a) (valM x.k x.b) (segM x.s) (offM x.s x.o) = x.run from rfl] at HPt
              unfold RetRecV recV at HMd
              unfold recV at HSm HPt
              clear hrn
              generalize seqM x.q = m1 at *
              generalize kindM x.k = m2 at *
              generalize segM x.s = m3 at *
              generalize offM x.s x.o = m4 at *
              generalize keyM x.a = ka at *
              generalize valM x.k x.b = vb at *
              obtain ⟨nk, hnk⟩ : ∃ a, a = ka.length := ⟨_, rfl⟩
              obtain ⟨nv, hnv⟩ : ∃ a, a = vb.length := ⟨_, rfl⟩
              rw [← hnk] at HMd HSm HPt rK ⊢
              rw [← hnv] at HMd HSm HPt rV ⊢
              clear hnk hnv
              go_upto_region 19 with (fail)
              have q13 := Blk.new w5 28 #[.int .u64 (m1 : Int), .int .i64 (m2 : Int), .slice (some ⟨gK, 0, none⟩) nk nk, .slice (some ⟨gV, 0, none⟩) nv nv, .int .u32 (m3 : Int), .int .u32 (m4 : Int)]
              have rK := rK.allocs (.cells #[.int .u64 (m1 : Int), .int .i64 (m2 : Int), .slice (some ⟨gK, 0, none⟩) nk nk, .slice (some ⟨gV, 0, none⟩) nv nv, .int .u32 (m3 : Int), .int .u32 (m4 : Int)] 28)
              have rV := rV.allocs (.cells #[.int .u64 (m1 : Int), .int .i64 (m2 : Int), .slice (some ⟨gK, 0, none⟩) nk nk, .slice (some ⟨gV, 0, none⟩) nv nv, .int .u32 (m3 : Int), .int .u32 (m4 : Int)] 28)
              have hT3 := hT3.alloc (.cells #[.int .u64 (m1 : Int), .int .i64 (m2 : Int), .slice (some ⟨gK, 0, none⟩) nk nk, .slice (some ⟨gV, 0, none⟩) nv nv, .int .u32 (m3 : Int), .int .u32 (m4 : Int)] 28)
              have hb0 := hb0.alloc hb0.size (.cells #[.int .u64 (m1 : Int), .int .i64 (m2 : Int), .slice (some ⟨gK, 0, none⟩) nk nk, .slice (some ⟨gV, 0, none⟩) nv nv, .int .u32 (m3 : Int), .int .u32 (m4 : Int)] 28)
              have rEz := rEz.alloc hbq.size (.cells #[.int .u64 (m1 : Int), .int .i64 (m2 : Int), .slice (some ⟨gK, 0, none⟩) nk nk, .slice (some ⟨gV, 0, none⟩) nv nv, .int .u32 (m3 : Int), .int .u32 (m4 : Int)] 28)
              have hbq := hbq.alloc hbq.size (.cells #[.int .u64 (m1 : Int), .int .i64 (m2 : Int), .slice (some ⟨gK, 0, none⟩) nk nk, .slice (some ⟨gV, 0, none⟩) nv nv, .int .u32 (m3 : Int), .int .u32 (m4 : Int)] 28)
              obtain ⟨g13, hg13⟩ : ∃ g, g = w5.heap.size := ⟨_, rfl⟩
              rw [← hg13] at q13 ⊢
              clear hg13
              generalize w5.alloc (.cells #[.int .u64 (m1 : Int), .int .i64 (m2 : Int), .slice (some ⟨gK, 0, none⟩) nk nk, .slice (some ⟨gV, 0, none⟩) nv nv, .int .u32 (m3 : Int), .int .u32 (m4 : Int)] 28) = w6 at *
              have hce := rEz.cell rfl (by omega) hge
              go_upto_region 21 with (fail)
              obtain ⟨b, off, rfl, _, _⟩ := hl.2.2 (by omega)
              have e9 : (at_ : Int) + (L : Int) = (nx : Int) := by have := HES.out; omega
              have i10 : j < n := by omega
              have i11 : (j : Int) < (n : Int) := by omega
              refine wp_region_plan (fun W => Below w6.drew.heap.size w6.drew W) [.calms [0, 1, 2, 3, 4, 5, 6, 7, 8], .act 9, .calms [10, 11, 12, 14, 15, 16], .read 13, .act 17, .act 18, .act 19, .calms [20, 21]] (by kernel_rfl) (by rfl) (by kernel_rfl) (by kernel_rfl) (Below.refl _ _) ?_
              have hcur : Below w6.heap.size w6 w6.drew := ⟨rfl, rfl, rfl, Nat.le_refl _, fun _ _ => rfl⟩
              have q13 := q13.after hcur
              have rK := rK.after hcur
              have rV := rV.after hcur
              have hT3 := hT3.after hcur
              have hb0 := hb0.trans (hcur.mono hb0.size)
              have hbq := hbq.trans (hcur.mono hbq.size)
              have rEz := rE.below hbq (Nat.le_refl _)
              clear hce hcur
              generalize w6.drew = wd at *
              have hce := rEz.cell rfl (by omega) hge
              have rlz := (hl.below hb0 (Nat.le_refl _)).more hb0.size
              have hc0 : wd.cell? ⟨b, off + j * 6, none⟩ = some (.int .u64 (x.q : Int)) := rlz.cell rfl (by omega) ((recs_get l (i := j) (j := 0) (hlj hjM) (by omega)).trans (by rw [← HX.out]; rfl))
              have hc1 : wd.cell? ⟨b, off + j * 6 + 1, none⟩ = some (.int .i64 x.k) := (Nat.add_assoc off (j * 6) 1) ▸ rlz.cell rfl (by omega) ((recs_get l (i := j) (j := 1) (hlj hjM) (by omega)).trans (by rw [← HX.out]; rfl))
              have hc2 : wd.cell? ⟨b, off + j * 6 + 2, none⟩ = some (.slice x.A x.n x.c) := (Nat.add_assoc off (j * 6) 2) ▸ rlz.cell rfl (by omega) ((recs_get l (i := j) (j := 2) (hlj hjM) (by omega)).trans (by rw [← HX.out]; rfl))
              have hc3 : wd.cell? ⟨b, off + j * 6 + 3, none⟩ = some (.slice x.B x.m x.d) := (Nat.add_assoc off (j * 6) 3) ▸ rlz.cell rfl (by omega) ((recs_get l (i := j) (j := 3) (hlj hjM) (by omega)).trans (by rw [← HX.out]; rfl))
              have hc4 : wd.cell? ⟨b, off + j * 6 + 4, none⟩ = some (.int .u32 (x.s : Int)) := (Nat.add_assoc off (j * 6) 4) ▸ rlz.cell rfl (by omega) ((recs_get l (i := j) (j := 4) (hlj hjM) (by omega)).trans (by rw [← HX.out]; rfl))
              have hc5 : wd.cell? ⟨b, off + j * 6 + 5, none⟩ = some (.int .u32 (x.o : Int)) := (Nat.add_assoc off (j * 6) 5) ▸ rlz.cell rfl (by omega) ((recs_get l (i := j) (j := 5) (hlj hjM) (by omega)).trans (by rw [← HX.out]; rfl))
              clear rlz
              refine plan_calms (by simp [calmRow, need, chk]; rfl) ?_
              go_wp2_with fail
              refine plan_act (by rfl) ?_
              go_wp2_with fail
              refine ⟨Below.refl _ _, plan_calms (by simp [calmRow, need, chk]; rfl) ?_⟩
              go_wp2_with fail
              refine plan_read (by rfl) (.agg #[.int .u64 (m1 : Int), .int .i64 (m2 : Int), .slice (some ⟨gK, 0, none⟩) nk nk, .slice (some ⟨gV, 0, none⟩) nv nv, .int .u32 (m3 : Int), .int .u32 (m4 : Int)]) (by rfl) (fun W hW => exec_load_blk rfl rfl (q13.after hW) Tryd.underlying28 rfl (by kernel_rfl)) ?_
              refine plan_act (by rfl) ?_
              go_wp2_with fail
              refine ⟨Below.refl _ _, plan_act (by rfl) ?_⟩
              go_wp2_with fail
              refine (HMd _ hb0.size (ra.below hb0 (Nat.le_refl _)) (rb.below hb0 (Nat.le_refl _))).out.mono ?_
              rintro e w7 ⟨Ak, ck, Bk, dk, rfl, hck, hdk, rk, rv, b7⟩
              have q13 := q13.after b7
              have rK := rK.after b7
              have rV := rV.after b7
              have hT3 := hT3.after b7
              have hb0 := hb0.trans (b7.mono hb0.size)
              have hbq := hbq.trans (b7.mono hbq.size)
              clear hc0 hc1 hc2 hc3 hc4 hc5 hce HMd
              go_wp2_with fail
              refine ⟨b7, plan_last (by rfl) (by kernel_rfl) ?_⟩
              clear b7
              go_wp2_with fail
              refine (HSm _ _ _ _ _ _ _ _ _ rK rV rk.1 rv.1).out.mono ?_
              rintro e w8 ⟨rfl, b8⟩
              have q13 := q13.after b8
              have rK := rK.after b8
              have rV := rV.after b8
              have hT3 := hT3.after b8
              have hb0 := hb0.trans (b8.mono hb0.size)
              have hbq := hbq.trans (b8.mono hbq.size)
              clear b8 rk rv HSm
              go_wp2_with fail
              refine plan_calms (by simp [calmRow, need]; rfl) ?_
              go_wp2_with fail
              refine plan_end ?_
              have d0 := q13.cell 0
              have d1 := q13.cell 1
              have d2 := q13.cell 2
              have d3 := q13.cell 3
              have d4 := q13.cell 4
              have d5 := q13.cell 5
              go_wp2_with fail
              refine (HPt _ _ _ _ _ hT3 rK rV).out.mono ?_
              rintro e w9 ⟨v9, rfl, o9, b9⟩
              have hT3 := hT3.after b9
              have hb0 := hb0.trans (b9.mono hb0.size)
              have hbq := hbq.trans (b9.mono hbq.size)
              clear d0 d1 d2 d3 d4 d5 q13 rK rV b9 HPt
              go_upto_region 24 with (fail)
              obtain ⟨g9, c9, rfl, hc9, _⟩ := own_ptr o9 (by omega)
              have r9 := own_rd o9
              have hseg2 : ((allX (l.take M)).take nx).drop at_ = x.run := by
                rw [HNX.out, HAT.out, HX.out]
                exact HSeg.out
              have hxe : at_ ≤ nx := by omega
              have hnE : nx ≤ E := by omega
              refine wp_region_plan (fun W => Below w9.drew.heap.size w9.drew W) [.calms [0, 1, 2, 3, 5, 6, 7, 8, 9, 10], .read 4, .act 11, .act 12, .calms [13]] (by kernel_rfl) (by rfl) (by kernel_rfl) (by kernel_rfl) (Below.refl _ _) ?_
              have hcur : Below w9.heap.size w9 w9.drew := ⟨rfl, rfl, rfl, Nat.le_refl _, fun _ _ => rfl⟩
              have r9 := r9.after hcur
              have hb0 := hb0.trans (hcur.mono hb0.size)
              have hbq := hbq.trans (hcur.mono hbq.size)
              clear hcur o9
              generalize w9.drew = wd at *
              have rc := ((rA.below hbq (Nat.le_refl _)).more hbq.size).cut hc1 hxe hnE
              rw [hseg2] at rc
              have f2 := run_conv (P := Tryd.prog) Tryd.underlying22 Tryd.underlying5 Tryd.underlying9 (c1 - at_) rc
              have hs2 := fun W => run_lh W (A := A1) (n := E) (c := c1) hxe (show nx ≤ c1 by omega) (at_ : Int) (nx : Int) rfl rfl
              have f1 := fun (W : World) (hW : Below wd.heap.size wd W) => run_conv (P := Tryd.prog) Tryd.underlying22 Tryd.underlying5 Tryd.underlying9 c9 (r9.after hW)
              generalize (⟨x.run.toArray⟩ : ByteArray) = S at *
              clear hs1 hseg2 rc r9
              refine plan_calms (by simp [calmRow, need, chk]; rfl) ?_
              go_wp2_with fail
              refine plan_read (by rfl) (.string S) (by rfl) (fun W hW => exec_conv rfl rfl (f1 W hW)) ?_
              refine plan_act (by rfl) ?_
              go_wp2_with fail
              refine ⟨Below.refl _ _, plan_last (by rfl) (by kernel_rfl) ?_⟩
              go_wp2_with fail
              refine plan_calms (by simp [calmRow, need]; rfl) ?_
              go_wp2_with fail
              refine plan_end ?_
              go_wp2_with fail
              go_roundw
              case rel => exact ⟨j + 1, by omega, by go_num, by rw [← HNX.out], by rw [← HNX.out]; exact hnx, hbq⟩
              case measure => simp [intOf]; omega
          · have hjMe : M = j := by omega
            subst hjMe
            have hEe := HE.out
            have hS : getS (((allX (l.take M)).take kk).drop (endsX l M)) = (0, 22) := getS_short (by have := rs.1; rw [bcells_len] at this; omega)
            have HG := Lib.hid (getR_none (((allX (l.take M)).take kk).drop (endsX l M)) (cutA A1 c1 (endsX l M)) (kk - endsX l M) (c1 - endsX l M) wr hT2 (by omega) rs 0 22 hS (by decide))
            unfold RetNone recV at HG
            clear hS HE rs r1 hlj hj hjM HMO
            generalize endsX l M = at_ at *
            have hak : at_ = kk := by omega
            clear hEe hek
            subst hak
            rw [Nat.sub_self] at HG
            go_wp2_with fail
            refine HG.out.mono ?_
            rintro e w5 ⟨rfl, b5⟩
            have hT3 := hT2.after b5
            have hb0 := hb0.trans (b5.mono hb0.size)
            clear b5 HG
            go_upto_region 28 with (fail)
            have hT3 := hT3.alloc (.cells #[.int .u64 0, .int .i64 0, .slice none 0 0, .slice none 0 0, .int .u32 0, .int .u32 0] 28)
            have hb0 := hb0.alloc hb0.size (.cells #[.int .u64 0, .int .i64 0, .slice none 0 0, .slice none 0 0, .int .u32 0, .int .u32 0] 28)
            generalize w5.alloc (.cells #[.int .u64 0, .int .i64 0, .slice none 0 0, .slice none 0 0, .int .u32 0, .int .u32 0] 28) = w6 at *
            go_wp2_with fail
            refine (knows_any _ hT3).mono ?_
            rintro e w7 ⟨rfl, b7⟩
            go_wp2_with fail
            go_ret
            exact ⟨rfl, hb0.trans (b7.mono hb0.size)⟩
      · have i1 : ¬ (j : Int) < (n : Int) := by omega
        have hMj : M = j := by omega
        clear hjm12 i1
        subst hMj
        obtain ⟨A1, c1, rfl, hc1⟩ := own_cap oa
        obtain ⟨A2, c2, rfl, hc2⟩ := own_cap oe
        have rA := own_rd oa
        have rE := own_rd oe
        have hT1 := hT.below hbz hT.1.1 hT.2.1
        have heE := endsX_le l M
        have HMO := fun i (hi : i < M) => Lib.hid (endsX_mono2 (l := l) (M := M) (by rw [HN.out]; omega) (M - i) i (by omega))
        obtain ⟨E, hE⟩ : ∃ E, E = endsX l M := ⟨_, rfl⟩
        rw [← hE] at rA hc1 heE HMO ⊢
        obtain ⟨kk, hkk⟩ : ∃ k, k = kc % (E + 1) := ⟨_, rfl⟩
        have hkE : kk ≤ E := by have := Nat.mod_lt kc (show 0 < E + 1 by omega); omega
        have ekk : (kc : Int) % ((E : Int) + 1) = (kk : Int) := by rw [hkk]; simp
        have HKK := Lib.hid ekk
        have HE := Lib.hid hE
        have i6 : (((E : Int) + 1) == 0) = false := by simp; omega
        have h0k : endsX l 0 ≤ kk := Nat.zero_le _
        clear hkk ekk hE oa oe hap
        go_wp2_with fail
        rw [HKK.out]
        generalize wr = wo at *
        go_loopw [11, 12, 13, 14, 15, 16, 17] (fun at_ i _ _ _ _ _ wz => ∃ j : Nat, j ≤ M ∧ i = .int .i64 (j : Int) ∧ at_ = .int .i64 (endsX l j : Int) ∧ endsX l j ≤ kk ∧ Below wo.heap.size wo wz) (fun _ i _ _ _ _ _ _ => M - (intOf i).toNat)
        case atStart => exact ⟨0, by omega, rfl, rfl, h0k, Below.refl _ _⟩
        case round =>
          obtain ⟨j, hj, rfl, rfl, hek, hbq⟩ := hrel
          have r1 := (rA.below hbq (Nat.le_refl _)).more hbq.size
          have hT2 := hT1.below hbq hT1.1.1 hT1.2.1
          have hb0 := hbz.trans (hbq.mono hbz.size)
          have rs := r1.cut hc1 hek hkE
          have hs1 := fun W => run_lh W (A := A1) (n := E) (c := c1) hek (show kk ≤ c1 by omega) (endsX l j : Int) (kk : Int) rfl rfl
          have hlj := fun (hjM : j < M) => (show j < l.length by rw [HN.out]; omega)
          by_cases hjM : j < M
          · have i7 : (j : Int) < (M : Int) := by omega
            obtain ⟨b2, off2, rfl, _, _⟩ := rE.2.2 (by omega)
            have rEz := rE.below hbq (Nat.le_refl _)
            have hce := rEz.cell rfl (by omega) (ecells_get l hjM)
            have hes := endsX_succ (hlj hjM)
            have hrn := fun x : RecX => x.run_len
            have hnl : M ≤ l.length := by rw [HN.out]; exact hMn
            by_cases hkt : kk < endsX l (j + 1)
            · have hS : getS (((allX (l.take M)).take kk).drop (endsX l j)) = (0, 22) := by
                rw [seg_torn2 hnl hjM hek hkt]
                exact getS_torn (made_may _ _ _ _ _ _) (by rw [← runR_len]; exact (by show kk - endsX l j < (l[j]'(hlj hjM)).run.length; omega))
              have HG := Lib.hid (getR_none (((allX (l.take M)).take kk).drop (endsX l j)) (cutA A1 c1 (endsX l j)) (kk - endsX l j) (c1 - endsX l j) wr hT2 (by omega) rs 0 22 hS (by decide))
              unfold RetNone recV at HG
              have i8 : (kk : Int) < (endsX l (j + 1) : Int) := by omega
              have hge := ecells_get l hjM
              clear hS hes hrn hce
              generalize endsX l (j + 1) = nx at *
              generalize endsX l j = at_ at *
              go_wp2_with fail
              refine HG.out.mono ?_
              rintro e w5 ⟨rfl, b5⟩
              have hT3 := hT2.after b5
              have hb0 := hb0.trans (b5.mono hb0.size)
              have hbq := hbq.trans (b5.mono hbq.size)
              have rEz := rE.below hbq (Nat.le_refl _)
              clear b5 HG
              go_upto_region 19 with (fail)
              have hT3 := hT3.alloc (.cells #[.int .u64 0, .int .i64 0, .slice none 0 0, .slice none 0 0, .int .u32 0, .int .u32 0] 28)
              have hb0 := hb0.alloc hb0.size (.cells #[.int .u64 0, .int .i64 0, .slice none 0 0, .slice none 0 0, .int .u32 0, .int .u32 0] 28)
              have rEz := rEz.alloc hbq.size (.cells #[.int .u64 0, .int .i64 0, .slice none 0 0, .slice none 0 0, .int .u32 0, .int .u32 0] 28)
              generalize w5.alloc (.cells #[.int .u64 0, .int .i64 0, .slice none 0 0, .slice none 0 0, .int .u32 0, .int .u32 0] 28) = w6 at *
              have hce := rEz.cell rfl (by omega) hge
              go_wp2_with fail
              refine (knows_any _ hT3).mono ?_
              rintro e w7 ⟨rfl, b7⟩
              go_wp2_with fail
              go_ret
              exact ⟨rfl, hb0.trans (b7.mono hb0.size)⟩
            · have hnx : endsX l (j + 1) ≤ kk := by omega
              obtain ⟨r, hseg⟩ := seg_more2 hnl hjM hnx
              obtain ⟨x, hx⟩ : ∃ x, x = l[j]'(hlj hjM) := ⟨_, rfl⟩
              have hxo := HOK.out x (by rw [hx]; exact List.getElem_mem _)
              rw [← hx] at hseg hes
              have hmay := made_may x.q x.k x.a x.b x.s x.o
              rw [hseg] at rs
              have hrl := x.run_len
              have HG := Lib.hid (getR_run2 (x.run ++ r) (cutA A1 c1 (endsX l j)) (kk - endsX l j) (c1 - endsX l j) wr hT2 (by omega) rs (seqM x.q) (kindM x.k) (keyM x.a) (valM x.k x.b) (segM x.s) (offM x.s x.o) x.run.length r hmay rfl (by unfold RecX.run; rw [runR_len]))
              unfold RetRec2 recV at HG
              have i8 : ¬ (kk : Int) < (endsX l (j + 1) : Int) := by omega
              have hge := ecells_get l hjM
              have HSeg := Lib.hid (seg_own2 hnl hjM)
              have HX := Lib.hid hx
              have HES := Lib.hid hes
              have HXO := Lib.hid hxo
              clear hrn hce hseg hx hes hxo hmay
              obtain ⟨nx, hnx2⟩ : ∃ a, a = endsX l (j + 1) := ⟨_, rfl⟩
              obtain ⟨at_, hat⟩ : ∃ a, a = endsX l j := ⟨_, rfl⟩
              rw [← hnx2] at i8 hge hnx HES
              rw [← hat] at HG hs1 hek HES ⊢
              have HNX := Lib.hid hnx2
              have HAT := Lib.hid hat
              obtain ⟨L, hL⟩ : ∃ L, L = x.run.length := ⟨_, rfl⟩
              rw [← hL] at HG hrl HES
              have HL := Lib.hid hL
              clear hnx2 hat hL rs
              go_wp2_with fail
              refine HG.out.mono ?_
              rintro e w5 ⟨gK, gV, rfl, rK, rV, bK, bV, b5⟩
              have hT3 := hT2.after b5
              have hb0 := hb0.trans (b5.mono hb0.size)
              have hbq := hbq.trans (b5.mono hbq.size)
              have rEz := rE.below hbq (Nat.le_refl _)
              clear b5 HG
              obtain ⟨xq, xs, xo, ra, rb, xn, xm⟩ := HXO.out
              have HMd := fun W hB r1 r2 => Lib.hid (made_any x.q x.k x.a x.b x.A x.n x.c x.B x.m x.d x.s x.o W xn xm w.heap.size hB r1 r2 xq xs xo)
              have HSm := fun A c B d A' c' B' d' W h1 h2 h3 h4 => Lib.hid (sameR_any (seqM x.q) (kindM x.k : Int) (keyM x.a) (valM x.k x.b) A (keyM x.a).length c B (valM x.k x.b).length d (segM x.s) (offM x.s x.o) (seqM x.q) (kindM x.k : Int) (keyM x.a) (valM x.k x.b) A' (keyM x.a).length c' B' (valM x.k x.b).length d' (segM x.s) (offM x.s x.o) W h1 h2 h3 h4)
              rw [show sameR (seqM x.q) (kindM x.k : Int) (keyM x.a) (valM x.k x.b) (segM x.s) (offM x.s x.o) (seqM x.q) (kindM x.k : Int) (keyM x.a) (valM x.k x.b) (segM x.s) (offM x.s x.o) = true by unfold sameR; simp] at HSm
              have hrn : 25 + (keyM x.a).length + (valM x.k x.b).length = L := by rw [HL.out]; unfold RecX.run; rw [runR_len]
              have HPt := fun A c B d W hT' r1 r2 => Lib.hid (putR_yes (seqM x.q) (kindM x.k) (keyM x.a) (valM x.k x.b) A _ c B _ d (segM x.s) (offM x.s x.o) W hT' (made_may x.q x.k x.a x.b x.s x.o) r1 r2)
              rw [hrn, show runR (seqM x.q) (kindM x.k) (keyM x.a) (valM x.k x.b) (segM x.s) (offM x.s x.o) = x.run from rfl] at HPt
              unfold RetRecV recV at HMd
              unfold recV at HSm HPt
              clear hrn
              generalize seqM x.q = m1 at *
              generalize kindM x.k = m2 at *
              generalize segM x.s = m3 at *
              generalize offM x.s x.o = m4 at *
              generalize keyM x.a = ka at *
              generalize valM x.k x.b = vb at *
              obtain ⟨nk, hnk⟩ : ∃ a, a = ka.length := ⟨_, rfl⟩
              obtain ⟨nv, hnv⟩ : ∃ a, a = vb.length := ⟨_, rfl⟩
              rw [← hnk] at HMd HSm HPt rK ⊢
              rw [← hnv] at HMd HSm HPt rV ⊢
              clear hnk hnv
              go_upto_region 19 with (fail)
              have q13 := Blk.new w5 28 #[.int .u64 (m1 : Int), .int .i64 (m2 : Int), .slice (some ⟨gK, 0, none⟩) nk nk, .slice (some ⟨gV, 0, none⟩) nv nv, .int .u32 (m3 : Int), .int .u32 (m4 : Int)]
              have rK := rK.allocs (.cells #[.int .u64 (m1 : Int), .int .i64 (m2 : Int), .slice (some ⟨gK, 0, none⟩) nk nk, .slice (some ⟨gV, 0, none⟩) nv nv, .int .u32 (m3 : Int), .int .u32 (m4 : Int)] 28)
              have rV := rV.allocs (.cells #[.int .u64 (m1 : Int), .int .i64 (m2 : Int), .slice (some ⟨gK, 0, none⟩) nk nk, .slice (some ⟨gV, 0, none⟩) nv nv, .int .u32 (m3 : Int), .int .u32 (m4 : Int)] 28)
              have hT3 := hT3.alloc (.cells #[.int .u64 (m1 : Int), .int .i64 (m2 : Int), .slice (some ⟨gK, 0, none⟩) nk nk, .slice (some ⟨gV, 0, none⟩) nv nv, .int .u32 (m3 : Int), .int .u32 (m4 : Int)] 28)
              have hb0 := hb0.alloc hb0.size (.cells #[.int .u64 (m1 : Int), .int .i64 (m2 : Int), .slice (some ⟨gK, 0, none⟩) nk nk, .slice (some ⟨gV, 0, none⟩) nv nv, .int .u32 (m3 : Int), .int .u32 (m4 : Int)] 28)
              have rEz := rEz.alloc hbq.size (.cells #[.int .u64 (m1 : Int), .int .i64 (m2 : Int), .slice (some ⟨gK, 0, none⟩) nk nk, .slice (some ⟨gV, 0, none⟩) nv nv, .int .u32 (m3 : Int), .int .u32 (m4 : Int)] 28)
              have hbq := hbq.alloc hbq.size (.cells #[.int .u64 (m1 : Int), .int .i64 (m2 : Int), .slice (some ⟨gK, 0, none⟩) nk nk, .slice (some ⟨gV, 0, none⟩) nv nv, .int .u32 (m3 : Int), .int .u32 (m4 : Int)] 28)
              obtain ⟨g13, hg13⟩ : ∃ g, g = w5.heap.size := ⟨_, rfl⟩
              rw [← hg13] at q13 ⊢
              clear hg13
              generalize w5.alloc (.cells #[.int .u64 (m1 : Int), .int .i64 (m2 : Int), .slice (some ⟨gK, 0, none⟩) nk nk, .slice (some ⟨gV, 0, none⟩) nv nv, .int .u32 (m3 : Int), .int .u32 (m4 : Int)] 28) = w6 at *
              have hce := rEz.cell rfl (by omega) hge
              go_upto_region 21 with (fail)
              obtain ⟨b, off, rfl, _, _⟩ := hl.2.2 (by omega)
              have e9 : (at_ : Int) + (L : Int) = (nx : Int) := by have := HES.out; omega
              have i10 : j < n := by omega
              have i11 : (j : Int) < (n : Int) := by omega
              refine wp_region_plan (fun W => Below w6.drew.heap.size w6.drew W) [.calms [0, 1, 2, 3, 4, 5, 6, 7, 8], .act 9, .calms [10, 11, 12, 14, 15, 16], .read 13, .act 17, .act 18, .act 19, .calms [20, 21]] (by kernel_rfl) (by rfl) (by kernel_rfl) (by kernel_rfl) (Below.refl _ _) ?_
              have hcur : Below w6.heap.size w6 w6.drew := ⟨rfl, rfl, rfl, Nat.le_refl _, fun _ _ => rfl⟩
              have q13 := q13.after hcur
              have rK := rK.after hcur
              have rV := rV.after hcur
              have hT3 := hT3.after hcur
              have hb0 := hb0.trans (hcur.mono hb0.size)
              have hbq := hbq.trans (hcur.mono hbq.size)
              have rEz := rE.below hbq (Nat.le_refl _)
              clear hce hcur
              generalize w6.drew = wd at *
              have hce := rEz.cell rfl (by omega) hge
              have rlz := (hl.below hb0 (Nat.le_refl _)).more hb0.size
              have hc0 : wd.cell? ⟨b, off + j * 6, none⟩ = some (.int .u64 (x.q : Int)) := rlz.cell rfl (by omega) ((recs_get l (i := j) (j := 0) (hlj hjM) (by omega)).trans (by rw [← HX.out]; rfl))
              have hc1 : wd.cell? ⟨b, off + j * 6 + 1, none⟩ = some (.int .i64 x.k) := (Nat.add_assoc off (j * 6) 1) ▸ rlz.cell rfl (by omega) ((recs_get l (i := j) (j := 1) (hlj hjM) (by omega)).trans (by rw [← HX.out]; rfl))
              have hc2 : wd.cell? ⟨b, off + j * 6 + 2, none⟩ = some (.slice x.A x.n x.c) := (Nat.add_assoc off (j * 6) 2) ▸ rlz.cell rfl (by omega) ((recs_get l (i := j) (j := 2) (hlj hjM) (by omega)).trans (by rw [← HX.out]; rfl))
              have hc3 : wd.cell? ⟨b, off + j * 6 + 3, none⟩ = some (.slice x.B x.m x.d) := (Nat.add_assoc off (j * 6) 3) ▸ rlz.cell rfl (by omega) ((recs_get l (i := j) (j := 3) (hlj hjM) (by omega)).trans (by rw [← HX.out]; rfl))
              have hc4 : wd.cell? ⟨b, off + j * 6 + 4, none⟩ = some (.int .u32 (x.s : Int)) := (Nat.add_assoc off (j * 6) 4) ▸ rlz.cell rfl (by omega) ((recs_get l (i := j) (j := 4) (hlj hjM) (by omega)).trans (by rw [← HX.out]; rfl))
              have hc5 : wd.cell? ⟨b, off + j * 6 + 5, none⟩ = some (.int .u32 (x.o : Int)) := (Nat.add_assoc off (j * 6) 5) ▸ rlz.cell rfl (by omega) ((recs_get l (i := j) (j := 5) (hlj hjM) (by omega)).trans (by rw [← HX.out]; rfl))
              clear rlz
              refine plan_calms (by simp [calmRow, need, chk]; rfl) ?_
              go_wp2_with fail
              refine plan_act (by rfl) ?_
              go_wp2_with fail
              refine ⟨Below.refl _ _, plan_calms (by simp [calmRow, need, chk]; rfl) ?_⟩
              go_wp2_with fail
              refine plan_read (by rfl) (.agg #[.int .u64 (m1 : Int), .int .i64 (m2 : Int), .slice (some ⟨gK, 0, none⟩) nk nk, .slice (some ⟨gV, 0, none⟩) nv nv, .int .u32 (m3 : Int), .int .u32 (m4 : Int)]) (by rfl) (fun W hW => exec_load_blk rfl rfl (q13.after hW) Tryd.underlying28 rfl (by kernel_rfl)) ?_
              refine plan_act (by rfl) ?_
              go_wp2_with fail
              refine ⟨Below.refl _ _, plan_act (by rfl) ?_⟩
              go_wp2_with fail
              refine (HMd _ hb0.size (ra.below hb0 (Nat.le_refl _)) (rb.below hb0 (Nat.le_refl _))).out.mono ?_
              rintro e w7 ⟨Ak, ck, Bk, dk, rfl, hck, hdk, rk, rv, b7⟩
              have q13 := q13.after b7
              have rK := rK.after b7
              have rV := rV.after b7
              have hT3 := hT3.after b7
              have hb0 := hb0.trans (b7.mono hb0.size)
              have hbq := hbq.trans (b7.mono hbq.size)
              clear hc0 hc1 hc2 hc3 hc4 hc5 hce HMd
              go_wp2_with fail
              refine ⟨b7, plan_last (by rfl) (by kernel_rfl) ?_⟩
              clear b7
              go_wp2_with fail
              refine (HSm _ _ _ _ _ _ _ _ _ rK rV rk.1 rv.1).out.mono ?_
              rintro e w8 ⟨rfl, b8⟩
              have q13 := q13.after b8
              have rK := rK.after b8
              have rV := rV.after b8
              have hT3 := hT3.after b8
              have hb0 := hb0.trans (b8.mono hb0.size)
              have hbq := hbq.trans (b8.mono hbq.size)
              clear b8 rk rv HSm
              go_wp2_with fail
              refine plan_calms (by simp [calmRow, need]; rfl) ?_
              go_wp2_with fail
              refine plan_end ?_
              have d0 := q13.cell 0
              have d1 := q13.cell 1
              have d2 := q13.cell 2
              have d3 := q13.cell 3
              have d4 := q13.cell 4
              have d5 := q13.cell 5
              go_wp2_with fail
              refine (HPt _ _ _ _ _ hT3 rK rV).out.mono ?_
              rintro e w9 ⟨v9, rfl, o9, b9⟩
              have hT3 := hT3.after b9
              have hb0 := hb0.trans (b9.mono hb0.size)
              have hbq := hbq.trans (b9.mono hbq.size)
              clear d0 d1 d2 d3 d4 d5 q13 rK rV b9 HPt
              go_upto_region 24 with (fail)
              obtain ⟨g9, c9, rfl, hc9, _⟩ := own_ptr o9 (by omega)
              have r9 := own_rd o9
              have hseg2 : ((allX (l.take M)).take nx).drop at_ = x.run := by
                rw [HNX.out, HAT.out, HX.out]
                exact HSeg.out
              have hxe : at_ ≤ nx := by omega
              have hnE : nx ≤ E := by omega
              refine wp_region_plan (fun W => Below w9.drew.heap.size w9.drew W) [.calms [0, 1, 2, 3, 5, 6, 7, 8, 9, 10], .read 4, .act 11, .act 12, .calms [13]] (by kernel_rfl) (by rfl) (by kernel_rfl) (by kernel_rfl) (Below.refl _ _) ?_
              have hcur : Below w9.heap.size w9 w9.drew := ⟨rfl, rfl, rfl, Nat.le_refl _, fun _ _ => rfl⟩
              have r9 := r9.after hcur
              have hb0 := hb0.trans (hcur.mono hb0.size)
              have hbq := hbq.trans (hcur.mono hbq.size)
              clear hcur o9
              generalize w9.drew = wd at *
              have rc := ((rA.below hbq (Nat.le_refl _)).more hbq.size).cut hc1 hxe hnE
              rw [hseg2] at rc
              have f2 := run_conv (P := Tryd.prog) Tryd.underlying22 Tryd.underlying5 Tryd.underlying9 (c1 - at_) rc
              have hs2 := fun W => run_lh W (A := A1) (n := E) (c := c1) hxe (show nx ≤ c1 by omega) (at_ : Int) (nx : Int) rfl rfl
              have f1 := fun (W : World) (hW : Below wd.heap.size wd W) => run_conv (P := Tryd.prog) Tryd.underlying22 Tryd.underlying5 Tryd.underlying9 c9 (r9.after hW)
              generalize (⟨x.run.toArray⟩ : ByteArray) = S at *
              clear hs1 hseg2 rc r9
              refine plan_calms (by simp [calmRow, need, chk]; rfl) ?_
              go_wp2_with fail
              refine plan_read (by rfl) (.string S) (by rfl) (fun W hW => exec_conv rfl rfl (f1 W hW)) ?_
              refine plan_act (by rfl) ?_
              go_wp2_with fail
              refine ⟨Below.refl _ _, plan_last (by rfl) (by kernel_rfl) ?_⟩
              go_wp2_with fail
              refine plan_calms (by simp [calmRow, need]; rfl) ?_
              go_wp2_with fail
              refine plan_end ?_
              go_wp2_with fail
              go_roundw
              case rel => exact ⟨j + 1, by omega, by go_num, by rw [← HNX.out], by rw [← HNX.out]; exact hnx, hbq⟩
              case measure => simp [intOf]; omega
          · have hjMe : M = j := by omega
            subst hjMe
            have hEe := HE.out
            have hS : getS (((allX (l.take M)).take kk).drop (endsX l M)) = (0, 22) := getS_short (by have := rs.1; rw [bcells_len] at this; omega)
            have HG := Lib.hid (getR_none (((allX (l.take M)).take kk).drop (endsX l M)) (cutA A1 c1 (endsX l M)) (kk - endsX l M) (c1 - endsX l M) wr hT2 (by omega) rs 0 22 hS (by decide))
            unfold RetNone recV at HG
            clear hS HE rs r1 hlj hj hjM HMO
            generalize endsX l M = at_ at *
            have hak : at_ = kk := by omega
            clear hEe hek
            subst hak
            rw [Nat.sub_self] at HG
            go_wp2_with fail
            refine HG.out.mono ?_
            rintro e w5 ⟨rfl, b5⟩
            have hT3 := hT2.after b5
            have hb0 := hb0.trans (b5.mono hb0.size)
            clear b5 HG
            go_upto_region 28 with (fail)
            have hT3 := hT3.alloc (.cells #[.int .u64 0, .int .i64 0, .slice none 0 0, .slice none 0 0, .int .u32 0, .int .u32 0] 28)
            have hb0 := hb0.alloc hb0.size (.cells #[.int .u64 0, .int .i64 0, .slice none 0 0, .slice none 0 0, .int .u32 0, .int .u32 0] 28)
            generalize w5.alloc (.cells #[.int .u64 0, .int .i64 0, .slice none 0 0, .slice none 0 0, .int .u32 0, .int .u32 0] 28) = w6 at *
            go_wp2_with fail
            refine (knows_any _ hT3).mono ?_
            rintro e w7 ⟨rfl, b7⟩
            go_wp2_with fail
            go_ret
            exact ⟨rfl, hb0.trans (b7.mono hb0.size)⟩
end Go.Proofs.YtlnidmjnomoddaaDoor
