/- What the listed variable of the library holds, in the heap's form; the door's own heap meets it; no condition. -/
import Derived.Test.YtnhgcgjmmalebaaDoorRows
import Derived.Test.YtnhgcgjmmalebaaDoorBitsN
import Derived.ProofKit
import Derived.LaidMore
import Derived.OpenShut
import Derived.Stop.Joined
set_option linter.unusedVariables false
set_option linter.unusedSimpArgs false
namespace Go.Proofs.YtnhgcgjmmalebaaDoor
open Go.ChangeShapes Go.WideShapes Go.ChangeAt Go.WideMaps Go.WideElems Go.RowKit

abbrev theLaid : List (String × DataW Unit) := [("math/bits.deBruijn64tab", Rows.laid_math_bits_deBruijn64tab)]
theorem gTab : Tryd.prog.globalNamed "math/bits.deBruijn64tab" = some 0 := by kernel_rfl
theorem tTab : (Tryd.prog.globals[0]?).map (·.type) = some 93 := by kernel_rfl

theorem door_met (os : Os) (args : Array Value) : laidMetH Tryd.prog theLaid ((World.doorLaid Tryd.prog 400 os).forCall (fun _ _ => 0) ⟨#[], args, []⟩).memory :=
  laidMetH_of_parts3 (fuel := 8) (laidMet_of_run' 8 (by kernel_rfl) (by kernel_rfl)) (by kernel_rfl) (by kernel_rfl)

theorem tab_datum {H : Type} : (Rows.laid_math_bits_deBruijn64tab : DataW H) = .agg (Lib.deBruijn64tab.map fun k : Nat => .lit (.int .u8 (k : Int))) := by kernel_rfl

theorem of_laid {W : World} (h : laidMetH Tryd.prog theLaid W) : Tab W.heap := by
  rw [MakeChecks.laidMetH_plain _ _ _ (by kernel_rfl)] at h
  obtain ⟨ps, ⟨g0, t0, cs0, f0, p0, q0, hg0, ht0, hv0, hd0, _⟩, _⟩ := h
  obtain rfl := Option.some.inj (gTab.symm.trans hg0)
  obtain rfl := Option.some.inj (tTab.symm.trans ht0)
  obtain ⟨xs, m1, rfl, hx1, hlen, hn3, hel⟩ := DataW.trod_array Tryd.underlying93 hd0
  have c5 : Tryd.prog.cellsOf 5 = 1 := by kernel_rfl
  simp only [Prod.mk.injEq] at hx1
  rw [tab_datum] at hx1
  simp only [DataW.agg.injEq] at hx1
  intro j hj
  have hj' : j < xs.length := by omega
  have h1 := hel j (by omega)
  rw [List.getElem?_eq_getElem hj', c5] at h1
  obtain ⟨k, e1, e2, _⟩ := DataW.trod_int Tryd.underlying5 h1
  have hk : (xs.map (·.1))[j]? = (Lib.deBruijn64tab.map fun k : Nat => (DataW.lit (.int .u8 (k : Int)) : DataW Unit))[j]? := by rw [← hx1.1]
  have hlt : j < Lib.deBruijn64tab.length := hj
  rw [List.getElem?_map, List.getElem?_map, List.getElem?_eq_getElem hj', List.getElem?_eq_getElem hlt] at hk
  simp only [Option.map_some, Option.some.injEq] at hk
  rw [e2] at hk
  simp only [DataW.lit.injEq, Lit.int.injEq, true_and] at hk
  have hc := World.var?_cell hg0 hv0 j
  have hcell : W.cell? ⟨0, j, none⟩ = some (.int .u8 k) := by
    rw [hc]
    have e3 : ((cs0.toList.drop (j * 1)).take 1)[0]? = some (.int .u8 k) := by rw [e1]; rfl
    rw [List.getElem?_take, if_pos (by omega), List.getElem?_drop, Nat.mul_one, Nat.add_zero] at e3
    simpa using e3
  have hv : Lib.deBruijn64tab.getD j 0 = Lib.deBruijn64tab[j] := by simp [List.getD, List.getElem?_eq_getElem hlt]
  rw [hv, ← hk]
  exact hcell

end Go.Proofs.YtnhgcgjmmalebaaDoor
