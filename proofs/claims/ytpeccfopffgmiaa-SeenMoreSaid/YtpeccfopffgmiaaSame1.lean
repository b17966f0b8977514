/- What the helpers versions, only and says come to. For every world in which the slices read as lists. -/
import Derived.Test.YtpeccfopffgmiaaSeen7
import Derived.Test.YtpeccfopffgmiaaTake
namespace Go.Proofs.Ytpeccfopffgmiaa
open Go.RowKit

theorem Try.infoVer : (Try.prog.info? 28).map (fun i => (i.zero, i.size, i.bytes)) = some (some (.agg #[.int .u64 0, .int .i64 0]), 2, 16) := by kernel_rfl
theorem eltVer : Elt Try.prog 22 28 (.agg #[.int .u64 0, .int .i64 0]) 2 16 := ⟨Try.underlying22, Try.infoVer, rfl, by omega⟩

abbrev Stp := Int × Bool
def scells (l : List Stp) : List Value := l.flatMap fun v => [.int .u8 v.1, .bool v.2]
def versGo (q : Int) : List Stp → List Ver
  | [] => []
  | v :: r => (q + (1 + v.1), if v.2 then 2 else 1) :: versGo (q + (1 + v.1)) r
def verL (l : List Stp) : List Ver := versGo 0 (l.take 40)
theorem vcells_append (a b : List Ver) : vcells (a ++ b) = vcells a ++ vcells b := by unfold vcells; rw [List.flatMap_append]

set_option maxHeartbeats 1000000 in
theorem versions_any (l : List Stp) (A : Option Addr) (n c : Nat) (w : World) (hn : l.length = n) (hwf : ∀ v ∈ l, 0 ≤ v.1 ∧ v.1 ≤ 255) (h : Rd w w.heap.size 2 A n (scells l)) :
    Calls Try.prog 18 #[.slice A n c] w (RetOwn w 28 2 (verL l).length (vcells (verL l))) := by
  have hm := h.2.1
  unfold maxLen at hm
  go_enter Try.func18, Try.ntmps18
  go_wp2
  go_loopw [3, 4, 5] (fun v s i wr => ∃ k : Nat, k ≤ n ∧ k ≤ 40 ∧ i = .int .i64 k ∧ ∃ q : Int, s = .int .u64 q ∧ 0 ≤ q ∧ q ≤ 256 * k ∧ ∃ pre : List Ver, pre.length = k ∧ verL l = pre ++ versGo q ((l.take 40).drop k) ∧
    wr.ownsRow w.heap.size 28 2 v k (vcells pre) ∧ Below w.heap.size w wr) (fun _ _ i _ => n - (intOf i).toNat)
  case atStart => exact ⟨0, Nat.zero_le _, by omega, rfl, 0, rfl, by omega, by omega, [], rfl, rfl, World.ownsRow_nil _ _ _ _, Below.refl _ _⟩
  case round =>
    obtain ⟨k, hk, hk4, rfl, q, rfl, hq0, hq1, pre, hpl, hve, hrow, hB⟩ := hrel
    have HV := Lib.hid hve
    have HP := Lib.hid hpl
    clear hve hpl
    by_cases hlt : k < n ∧ k < 40
    · obtain ⟨h1, h2⟩ := hlt
      obtain ⟨b, off, rfl, hblk, hcell⟩ := h.2.2 (by omega)
      have hkl : k < l.length := by omega
      have e0 := flatMap_get (fun v : Stp => [Value.int .u8 v.1, Value.bool v.2]) 2 (fun _ => rfl) l k 0 (by omega)
      have e1 := flatMap_get (fun v : Stp => [Value.int .u8 v.1, Value.bool v.2]) 2 (fun _ => rfl) l k 1 (by omega)
      rw [List.getElem?_eq_getElem hkl] at e0 e1
      have hw := hwf l[k] (List.getElem_mem hkl)
      have HD := Lib.hid (show (l.take 40).drop k = l[k] :: (l.take 40).drop (k + 1) by
        rw [List.drop_eq_getElem_cons (by rw [List.length_take]; omega)]; simp)
      obtain ⟨⟨a, g⟩, hv⟩ : ∃ v, v = l[k] := ⟨_, rfl⟩
      rw [← hv] at e0 e1 hw HD
      clear hv
      simp only [Option.bind_some, List.getElem?_cons_zero, List.getElem?_cons_succ, Nat.add_zero] at e0 e1
      have c0 : wr.cell? ⟨b, off + k * 2, none⟩ = some (.int .u8 a) := (hB.cell (p := ⟨b, off + k * 2, none⟩) hblk).trans (hcell _ _ e0)
      have c1 : wr.cell? ⟨b, off + k * 2 + 1, none⟩ = some (.bool g) := (hB.cell (p := ⟨b, off + k * 2 + 1, none⟩) hblk).trans (hcell _ _ e1)
      obtain ⟨ha0, ha1⟩ := hw
      dsimp only at ha0 ha1
      have HN := Lib.hid (show versGo q ((a, g) :: (l.take 40).drop (k + 1)) = (q + (1 + a), if g then 2 else 1) :: versGo (q + (1 + a)) ((l.take 40).drop (k + 1)) from rfl)
      have hs := hB.size
      have hbw : b < wr.heap.size := by omega
      clear e0 e1 hcell
      cases g with
      | false =>
        have HP2 := Lib.hid (vcells_append pre [(q + (1 + a), 1)])
        go_wp2_with (at_builtin; refine wpList_pushAt eltVer rfl (.tmp 34) (.tmp 36) rfl (W := wr.alloc (.cells #[.int .u64 (q + (1 + a)), .int .i64 1] 28)) rfl (hrow.alloc _) rfl (by simp) rfl (by simp [Value.oneCell']) (by omega) (by unfold maxLen; omega) (hB.alloc hs _) (by simp; omega) ?_; intro v' w' hown' hb' _ _)
        go_roundw
        case rel => exact ⟨k + 1, by omega, by omega, by go_num, _, rfl, by omega, by omega, pre ++ [(q + (1 + a), 1)], by simp [HP.out], by rw [HV.out, HD.out, HN.out, List.append_assoc]; rfl, by rw [HP2.out]; exact hown', hb'⟩
        case measure => simp [intOf]; omega
      | true =>
        have HP2 := Lib.hid (vcells_append pre [(q + (1 + a), 2)])
        go_wp2_with (at_builtin; refine wpList_pushAt eltVer rfl (.tmp 34) (.tmp 36) rfl (W := wr.alloc (.cells #[.int .u64 (q + (1 + a)), .int .i64 2] 28)) rfl (hrow.alloc _) rfl (by simp) rfl (by simp [Value.oneCell']) (by omega) (by unfold maxLen; omega) (hB.alloc hs _) (by simp; omega) ?_; intro v' w' hown' hb' _ _)
        go_roundw
        case rel => exact ⟨k + 1, by omega, by omega, by go_num, _, rfl, by omega, by omega, pre ++ [(q + (1 + a), 2)], by simp [HP.out], by rw [HV.out, HD.out, HN.out, List.append_assoc]; rfl, by rw [HP2.out]; exact hown', hb'⟩
        case measure => simp [intOf]; omega
    · have HE := Lib.hid (show verL l = pre by rw [HV.out, List.drop_of_length_le (by rw [List.length_take]; omega)]; simp [versGo])
      have HP3 := Lib.hid (show pre.length = k from HP.out)
      by_cases h1 : k < n
      · have h2 : ¬ k < 40 := fun h => hlt ⟨h1, h⟩
        clear hlt HV
        go_wp2
        go_ret
        exact ⟨_, rfl, by rw [HE.out, HP3.out]; exact hrow, hB⟩
      · clear hlt HV
        go_wp2
        go_ret
        exact ⟨_, rfl, by rw [HE.out, HP3.out]; exact hrow, hB⟩

def onlyP (m : List Bool) (but : Int) (i : Nat) : Bool := m.getD i false && (i : Int) != but
def onlyTo (l : List Ver) (m : List Bool) (but : Int) (k : Nat) : List Ver := ((List.range k).filter (onlyP m but)).map fun i => l.getD i (0, 0)
def onlyL (l : List Ver) (m : List Bool) (but : Int) : List Ver := onlyTo l m but (min l.length m.length)
theorem onlyTo_len (l : List Ver) (m : List Bool) (but : Int) (k : Nat) : (onlyTo l m but k).length ≤ k := by
  unfold onlyTo
  rw [List.length_map]
  exact Nat.le_trans (List.length_filter_le _ _) (by simp)
theorem onlyTo_yes {l : List Ver} {m : List Bool} {but : Int} {k : Nat} (h : onlyP m but k = true) : onlyTo l m but (k + 1) = onlyTo l m but k ++ [(seqAt l k, kindAt l k)] := by
  unfold onlyTo
  rw [List.range_succ, List.filter_append, List.map_append]
  simp only [List.filter_cons, h, if_true, List.filter_nil, List.map_cons, List.map_nil]
  rfl
theorem onlyTo_no {l : List Ver} {m : List Bool} {but : Int} {k : Nat} (h : onlyP m but k = false) : onlyTo l m but (k + 1) = onlyTo l m but k := by
  unfold onlyTo
  rw [List.range_succ, List.filter_append, List.map_append]
  simp only [List.filter_cons, h, List.filter_nil]
  simp

set_option maxHeartbeats 1000000 in
theorem only_any (l : List Ver) (A : Option Addr) (n c : Nat) (m : List Bool) (A' : Option Addr) (n' c' : Nat) (but : Int) (w : World) (hn : l.length = n) (hnm : n ≤ 1000000) (hn' : m.length = n') (hnm' : n' ≤ 1000000)
    (h : Rd w w.heap.size 2 A n (vcells l)) (h' : Rd w w.heap.size 1 A' n' (m.map .bool)) :
    Calls Try.prog 19 #[.slice A n c, .slice A' n' c', .int .i64 but] w (RetOwn w 28 2 (onlyL l m but).length (vcells (onlyL l m but))) := by
  have HL := Lib.hid (show onlyL l m but = onlyTo l m but (min n n') by unfold onlyL; rw [hn, hn'])
  go_enter Try.func19, Try.ntmps19
  go_wp2
  go_loopw [7, 8] (fun v i wr => ∃ k : Nat, k ≤ n ∧ k ≤ n' ∧ i = .int .i64 k ∧ wr.ownsRow w.heap.size 28 2 v (onlyTo l m but k).length (vcells (onlyTo l m but k)) ∧ Below w.heap.size w wr) (fun _ i _ => n - (intOf i).toNat)
  case atStart => exact ⟨0, Nat.zero_le _, by omega, rfl, World.ownsRow_nil _ _ _ _, Below.refl _ _⟩
  case round =>
    obtain ⟨k, hk, hk', rfl, hrow, hB⟩ := hrel
    by_cases hlt : k < n ∧ k < n'
    · obtain ⟨h1, h2⟩ := hlt
      obtain ⟨b, off, rfl, hblk, hcell⟩ := h.2.2 (by omega)
      obtain ⟨b', off', rfl, hblk', hcell'⟩ := h'.2.2 (by omega)
      have hkl : k < l.length := by omega
      have c0 : wr.cell? ⟨b, off + k * 2, none⟩ = some (.int .u64 (seqAt l k)) := (hB.cell (p := ⟨b, off + k * 2, none⟩) hblk).trans (hcell _ _ (vcells_s hkl))
      have c1 : wr.cell? ⟨b, off + k * 2 + 1, none⟩ = some (.int .i64 (kindAt l k)) := (hB.cell (p := ⟨b, off + k * 2 + 1, none⟩) hblk).trans (hcell _ _ (vcells_k hkl))
      have cm : wr.cell? ⟨b', off' + k, none⟩ = some (.bool (m.getD k false)) := (hB.cell (p := ⟨b', off' + k, none⟩) hblk').trans (hcell' k _ (by simp [show k < m.length by omega]))
      have HY := Lib.hid (onlyTo_yes (l := l) (m := m) (but := but) (k := k))
      have HN := Lib.hid (onlyTo_no (l := l) (m := m) (but := but) (k := k))
      have hle := onlyTo_len l m but k
      have HE := Lib.hid (show onlyP m but k = (m.getD k false && (k : Int) != but) from rfl)
      have hs := hB.size
      have HA := Lib.hid (vcells_append (onlyTo l m but k) [(seqAt l k, kindAt l k)])
      generalize seqAt l k = x at *
      generalize kindAt l k = y at *
      generalize m.getD k false = g at *
      clear hcell hcell'
      have done : onlyP m but k = false → Hid (wr.ownsRow w.heap.size 28 2 = wr.ownsRow w.heap.size 28 2) := fun _ => rfl
      clear done
      by_cases hb : (g && (k : Int) != but) = true
      · have HY2 := Lib.hid (HY.out (HE.out.trans hb))
        simp only [Bool.and_eq_true] at hb
        obtain ⟨rfl, hb2⟩ := hb
        clear HY HN HE
        go_wp2_with (at_builtin; refine wpList_push eltVer rfl (.tmp 30) (.tmp 35) rfl (W := wr) rfl hrow rfl rfl (by simp [Value.oneCell']) (by omega) (by unfold maxLen; omega) hB hs ?_; intro v' w' hown' hb' _ _)
        go_roundw
        case rel => exact ⟨k + 1, by omega, by omega, by go_num, by rw [HY2.out, List.length_append, HA.out]; exact hown', hb'⟩
        case measure => simp [intOf]; omega
      · have hbf : (g && (k : Int) != but) = false := by simpa using hb
        have HN2 := Lib.hid (HN.out (HE.out.trans hbf))
        clear HY HN HE HA hb
        cases g with
        | false =>
          clear hbf
          go_wp2
          go_roundw
          case rel => exact ⟨k + 1, by omega, by omega, by go_num, by rw [HN2.out]; exact hrow, hB⟩
          case measure => simp [intOf]; omega
        | true =>
          have hbf2 : ((k : Int) != but) = false := by simpa using hbf
          clear hbf
          go_wp2
          go_roundw
          case rel => exact ⟨k + 1, by omega, by omega, by go_num, by rw [HN2.out]; exact hrow, hB⟩
          case measure => simp [intOf]; omega
    · have HK := Lib.hid (show k = min n n' by omega)
      by_cases h1 : k < n
      · have h2 : ¬ k < n' := fun h => hlt ⟨h1, h⟩
        clear hlt
        go_wp2
        go_ret
        exact ⟨_, rfl, by rw [HL.out, ← HK.out]; exact hrow, hB⟩
      · clear hlt
        go_wp2
        go_ret
        exact ⟨_, rfl, by rw [HL.out, ← HK.out]; exact hrow, hB⟩

def saysV (l : List Ver) (s : Int) : Int := if thereB l s then seqAt l (newK l s) else 0

set_option maxHeartbeats 400000 in
theorem says_any (l : List Ver) (A : Option Addr) (n c : Nat) (s : Int) (w : World) (hn : l.length = n) (hnm : n ≤ 1000000) (h : Rd w w.heap.size 2 A n (vcells l)) :
    Calls Try.prog 20 #[.slice A n c, .int .u64 s] w fun e w' => e = .returned (.int .u64 (saysV l s)) ∧ Below w.heap.size w w' := by
  have hm := newest_any l A n c s w hn (by omega) h
  have Ht := Lib.hid (show saysV l s = if (newIs l s && kindAt l (newK l s) == 1) then seqAt l (newK l s) else 0 from rfl)
  cases hi : newIs l s with
  | false =>
    rw [hi] at hm Ht
    have Hm := Lib.hid hm
    clear hm hi h
    go_enter Try.func20, Try.ntmps20
    go_wp2_with fail
    refine Hm.out.mono ?_
    rintro e w' ⟨rfl, hb⟩
    go_wp2
    go_ret
    exact ⟨ret_int (by rw [Ht.out]; rfl), hb⟩
  | true =>
    have hk := newIs_lt hi
    rw [hi] at hm Ht
    have Hm := Lib.hid hm
    clear hm hi
    obtain ⟨b, off, rfl, hblk, hcell⟩ := h.2.2 (by omega)
    have c1 := hcell _ _ (vcells_k hk)
    have c0 := hcell _ _ (vcells_s hk)
    generalize kindAt l (newK l s) = y at *
    generalize seqAt l (newK l s) = x at *
    generalize newK l s = k at *
    have hki : (k : Int) < (n : Int) := by omega
    clear h hcell
    go_enter Try.func20, Try.ntmps20
    go_wp2_with fail
    refine Hm.out.mono ?_
    rintro e w1 ⟨rfl, hb⟩
    have c1' : w1.cell? ⟨b, off + k * 2 + 1, none⟩ = some (.int .i64 y) := (hb.cell (p := ⟨b, off + k * 2 + 1, none⟩) hblk).trans c1
    have c0' : w1.cell? ⟨b, off + k * 2, none⟩ = some (.int .u64 x) := (hb.cell (p := ⟨b, off + k * 2, none⟩) hblk).trans c0
    clear c1 c0
    by_cases hy : y = 1
    · subst hy
      go_wp2
      go_ret
      exact ⟨ret_int (by rw [Ht.out]; simp), hb⟩
    · have hyb : (y != 1) = true := by simp [hy]
      have Hy := Lib.hid hy
      clear hy
      go_wp2
      go_ret
      exact ⟨ret_int (by rw [Ht.out]; simp [Hy.out]), hb⟩
end Go.Proofs.Ytpeccfopffgmiaa
