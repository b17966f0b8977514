/- Results that lie in a block. Plain laws, no condition of their own. -/
import Derived.Test.YtkkhojealihghaaBlk
namespace Go.Proofs.Ytkkhojealihghaa
open Go.RowKit

section
variable {P : Program} {fn : Func} {tmps : Array Value} {w : World} {a : Tmp} {t e : TypeId} {g : Nat} {cs : Array Value} {d : TypeDesc}
theorem res_load (hb : Blk w g e cs) (hu : P.underlying t = some d) (hd : (match d with | .struct _ | .array _ _ => true | _ => false) = true) (hi : (P.info? t).map (·.size) = some cs.size) :
    (loadVar t ⟨g, 0, none⟩).run P w = .ok (.agg cs) w := run_loadVar_row w g e t cs (0, 0) d hb hu hd hi
theorem res_addr {v : Value} {p : Addr} (h : v = .pointer (some p)) : (asAddr v).run P w = .ok p w := by subst h; rfl
theorem results_cell1 (h : fn.results = #[.cell a t]) (ha : tmps.getD a undef = .pointer (some ⟨g, 0, none⟩)) (hl : (loadVar t ⟨g, 0, none⟩).run P w = .ok (.agg cs) w) :
    (results fn tmps).run P w = .ok (.agg cs) w := by
  have ha' := res_addr (P := P) (w := w) ha
  rw [Array.getD_eq_getD_getElem?] at ha'
  simp [results, h, ha', hl]
theorem results_cell2 {u : Tmp} (h : fn.results = #[.cell a t, .tmp u]) (ha : tmps.getD a undef = .pointer (some ⟨g, 0, none⟩)) (hl : (loadVar t ⟨g, 0, none⟩).run P w = .ok (.agg cs) w) :
    (results fn tmps).run P w = .ok (.tuple #[.agg cs, tmps.getD u undef]) w := by
  have ha' := res_addr (P := P) (w := w) ha
  rw [Array.getD_eq_getD_getElem?] at ha'
  simp [results, h, ha', hl]
theorem results_cell3 {u v : Tmp} (h : fn.results = #[.cell a t, .tmp u, .tmp v]) (ha : tmps.getD a undef = .pointer (some ⟨g, 0, none⟩)) (hl : (loadVar t ⟨g, 0, none⟩).run P w = .ok (.agg cs) w) :
    (results fn tmps).run P w = .ok (.tuple #[.agg cs, tmps.getD u undef, tmps.getD v undef]) w := by
  have ha' := res_addr (P := P) (w := w) ha
  rw [Array.getD_eq_getD_getElem?] at ha'
  simp [results, h, ha', hl]
end
end Go.Proofs.Ytkkhojealihghaa
