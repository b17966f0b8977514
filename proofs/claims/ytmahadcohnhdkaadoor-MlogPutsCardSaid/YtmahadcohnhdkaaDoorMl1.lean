/- Package mlog: Put. For every edit. -/
import Derived.Test.YtmahadcohnhdkaaDoorEd10
import Derived.Test.YtmahadcohnhdkaaDoorGC
namespace Go.Proofs.YtmahadcohnhdkaaDoor
open Go.RowKit
attribute [local go_sem] Oper.semAt_some

/-- an edit's frame -/
def frameB (d : Ed) : List UInt8 := coverC (coverC (le (edB d).length 4) ++ edB d)
theorem frameB_len (d : Ed) : (frameB d).length = 12 + (edB d).length := by
  unfold frameB
  rw [coverC_len, List.length_append, coverC_len, le_len]
  omega
theorem mayEd_few {d : Ed} (h : mayEd d = true) : d.name.length ≤ 32 ∧ d.seals.length ≤ 200 := by
  unfold mayEd at h
  simp only [Bool.and_eq_true] at h
  obtain ⟨⟨⟨⟨⟨⟨⟨⟨_, _⟩, _⟩, h1⟩, _⟩, _⟩, _⟩, h2⟩, _⟩ := h
  refine ⟨?_, by simpa using h2⟩
  split at h1
  · simp at h1; omega
  · simp at h1; simp [h1]
theorem edB_short {d : Ed} (h : mayEd d = true) : (edB d).length ≤ 10000 := by
  obtain ⟨h1, h2⟩ := mayEd_few h
  have h3 := slBs_len d.seals
  have p1 := psize_le d.seq
  have p2 := psize_le d.name.length
  have p3 := psize_le d.id
  have p4 := psize_le d.seals.length
  unfold edB
  simp only [List.length_append]
  have a1 : (if hasSeq d.kind then pform d.seq else []).length ≤ 9 := by split; rw [pform_len]; omega; simp
  have a2 : (if hasName d.kind then pform d.name.length ++ d.name else []).length ≤ 41 := by split; rw [List.length_append, pform_len]; omega; simp
  have a3 : (if hasId d.kind then pform d.id else []).length ≤ 9 := by split; rw [pform_len]; omega; simp
  have a4 : (if d.kind = 6 then pform d.seals.length else []).length ≤ 9 := by split; rw [pform_len]; omega; simp
  have a5 : [UInt8.ofNat d.kind.toNat].length = 1 := rfl
  omega
def putM (d : Ed) : List UInt8 := if mayEd d then frameB d else []
def RetPutM (w : World) (d : Ed) (e : Ending) (w' : World) : Prop :=
  ∃ v, e = .returned (.tuple #[v, .int .i64 (if mayEd d then 0 else 1)]) ∧ w'.ownsRow w.heap.size 5 1 v (putM d).length (bcells (putM d)) ∧ Below w.heap.size w w'
theorem fixed4 (x : Nat) (hx : x ≤ 100000) : fixedB [] x 4 = le x 4 ∧ fixedE x 4 = 0 := by
  have h : fixedOk x 4 = true := by unfold fixedOk fits; simp; omega
  have h2 : fits x (8 * 4) = true := by unfold fits; simp; omega
  refine ⟨?_, ?_⟩
  · unfold fixedB; rw [if_pos h]; rfl
  · unfold fixedE; rw [if_neg (by omega), if_pos h2]

set_option maxRecDepth 100000 in
set_option maxHeartbeats 8000000 in
theorem putM_any (d : Ed) (hd : d.fits) (A : Option Addr) (n c : Nat) (w : World) (hT : Tab w) (hn : d.seals.length = n) (hr : Rd w w.heap.size 5 A n (slCells d.seals)) (hnc : n ≤ c) :
    Calls Tryd.prog 9 #[.agg (edC d ⟨d.name.toArray⟩ (.slice A n c))] w (RetPutM w d) := by
  obtain ⟨E, hE⟩ : ∃ E, E = edC d ⟨d.name.toArray⟩ (.slice A n c) := ⟨_, rfl⟩
  have hsz : E.size = 5 := by rw [hE]; rfl
  have b1 := (Below.refl w.heap.size w).alloc (Nat.le_refl _) (.cells E 31)
  have q1 := Blk.new w 31 E
  have HP := Lib.hid (putEd_any d hd A n c (w.alloc (.cells E 31)) hn ((hr.below b1 (Nat.le_refl _)).more b1.size) hnc)
  rw [← hE] at HP ⊢
  have hT1 := hT.alloc (.cells E 31)
  have HTL := Lib.hid hT.1
  unfold RetPutM
  obtain ⟨cd, hcd⟩ : ∃ k, k = (if mayEd d = true then (0 : Int) else 1) := ⟨_, rfl⟩
  rw [← hcd]
  have HCD := Lib.hid hcd
  clear hcd
  have HED := Lib.hid (fun h : mayEd d = true => edB_short h)
  clear hE hr hd hn
  go_enter Tryd.func9, Tryd.ntmps9
  go_upto_region 1 with (fail)
  generalize w.alloc (.cells E 31) = w1 at *
  have Q1 := Lib.hid q1
  go_wp2_with (first | (refine wpList_value rfl (exec_load_blk rfl rfl Q1.out Tryd.underlying31 rfl (by rw [hsz]; kernel_rfl)) ?_) | fail)
  refine HP.out.mono ?_
  rintro e w2 ⟨v2, rfl, o2, b2⟩
  have hb := belowGo b1 b2
  have hT2 := hT1.after b2
  clear HP b1 hT1 q1
  cases hm : mayEd d with
  | false =>
    have hz : putM d = [] := by unfold putM; rw [hm]; rfl
    have HZ := Lib.hid hz
    have HB := Lib.hid hb
    have HM := Lib.hid hm
    rw [if_neg (by decide)]
    clear hz hb hm o2
    go_wp2_with fail
    refine bodyPost_ret (results_tmp2 rfl) rfl ⟨.slice none 0 0, by rw [HCD.out, HM.out]; rfl, ?_, HB.out⟩
    rw [HZ.out]
    exact World.ownsRow_nil _ _ _ _
  | true =>
    have hz : putM d = frameB d := by unfold putM; rw [hm]; rfl
    have hp : putB d = edB d := by unfold putB; rw [hm]; rfl
    have hle := HED.out hm
    rw [if_pos rfl]
    rw [hp] at o2
    obtain ⟨A2, c2, rfl, -⟩ := own_cap o2
    have R2 := Lib.hid (Rd.of_own o2)
    have HB := Lib.hid hb
    have HT := Lib.hid hT2
    obtain ⟨m, hmm⟩ : ∃ m, m = (edB d).length := ⟨_, rfl⟩
    have hfb : frameB d = coverC (coverC (le m 4) ++ edB d) := by rw [hmm]; rfl
    have HZ := Lib.hid (hz.trans hfb)
    have HM := Lib.hid hm
    rw [← hmm] at R2 hle ⊢
    generalize edB d = L at *
    obtain ⟨f1, f2⟩ := fixed4 m (by omega)
    have FX := Lib.hid (fixed_any [] none 0 0 m (by omega) 4 w2 (Rd.nil_ _ _ _ _) (by omega))
    rw [f1, f2, le_len] at FX
    have hmi : ¬ 65536 < (m : Int) := by omega
    have HMM := Lib.hid hmm
    clear hz hp hm o2 hb hT2 b2 HED f1 f2 hfb hmm
    go_wp2_with fail
    refine FX.out.mono ?_
    rintro e w3 ⟨v3, rfl, o3, b3⟩
    obtain ⟨A3, c3, rfl, -⟩ := own_cap o3
    have HT := Lib.hid (HT.out.after b3)
    have R2 := Lib.hid (R2.out.after b3)
    have HB := Lib.hid (belowGo HB.out b3)
    have CV := Lib.hid (cover_any (le m 4) A3 4 c3 w3 HT.out (Rd.of_own o3) (by omega))
    clear FX b3 o3
    go_wp2_with fail
    refine CV.out.mono ?_
    rintro e w4 ⟨v4, rfl, o4, b4⟩
    have HT := Lib.hid (HT.out.after b4)
    have R2 := Lib.hid (R2.out.after b4)
    have HB0 := Lib.hid HB.out.size
    have HB := Lib.hid (belowGo HB.out b4)
    have O4 : Hid (Ow _ _ _ _ _ _ _) := Lib.hid (own_low o4 HB0.out)
    clear CV b4 o4
    go_wp2_with (first
      | (at_builtin; refine wpList_app eltU8 rfl (.tmp 29) (.tmp 30) rfl rfl O4.out rfl R2.out (bcells_one _) (by omega) (by unfold maxLen; omega) (Below.refl _ _) HB.out.size ?_; intro v5 w5 o5 b5 g5 x5; obtain ⟨A5, c5, rfl, -⟩ := own_cap o5; have HT := Lib.hid (HT.out.below b5 HTL.out); have HB := Lib.hid (HB.out.trans b5); have O5 : Hid (Ow _ _ _ _ _ _ _) := Lib.hid o5; clear o5 b5 g5 x5)
      | fail)
    have CV := Lib.hid (cover_any (coverC (le m 4) ++ L) A5 (8 + m) c5 w5 HT.out (by rw [bcells_append]; exact Rd.of_own O5.out) (by omega))
    have HB0 := Lib.hid HB.out.size
    have HML : Hid (8 + m + 4 = (coverC (coverC (le m 4) ++ L)).length) := Lib.hid (by rw [coverC_len, List.length_append, coverC_len, le_len, ← HMM.out])
    refine CV.out.mono ?_
    rintro e w6 ⟨v6, rfl, o6, b6⟩
    have hb := belowGo HB.out b6
    have O6 : Hid (Ow _ _ _ _ _ _ _) := Lib.hid (own_low o6 HB0.out)
    clear o6 b6 CV
    go_wp2_with fail
    refine bodyPost_ret (results_tmp2 rfl) rfl ⟨v6, by rw [HCD.out, HM.out]; rfl, ?_, hb⟩
    rw [HZ.out, ← HML.out]
    exact O6.out
end Go.Proofs.YtmahadcohnhdkaaDoor
