/- A parameter's value, and what is left without it: the program's. -/
import Derived.Test.YtcfbmfcobpfcjaaDoorPrDefs
import Derived.Test.YtcfbmfcobpfcjaaDoorRd2
namespace Go.Proofs.YtcfbmfcobpfcjaaDoor
open Go.RowKit Lift
set_option linter.unusedSimpArgs false
set_option linter.unusedVariables false

/-- A property as a value. -/
def propV (g n : ByteArray) (ao : Option Addr) (len cap : Nat) (v : ByteArray) (aa : Option Addr) (na ca : Nat) : Value := .agg #[.string g, .string n, .slice ao len cap, .string v, .slice aa na ca]
def parOf (name : ByteArray) (l : List Par) : ByteArray × Bool := match l.find? (fun c => decide (c.1 = name)) with | some c => (c.2, true) | none => (ByteArray.empty, false)
theorem parOf_none {name : ByteArray} {l : List Par} (h : idx (fun c => decide (c.1 = name)) 0 l = -1) : parOf name l = (ByteArray.empty, false) := by
  unfold parOf
  rw [List.find?_eq_none.2 (fun c hc => by have := idx_none _ _ _ h c hc; simpa using this)]
theorem parOf_some {name : ByteArray} {l : List Par} {j : Nat} {c : Par} (h : idx (fun c => decide (c.1 = name)) 0 l = j) (hj : l[j]? = some c) : parOf name l = (c.2, true) := by
  obtain ⟨d, h1, h2, h3⟩ := idx_at _ _ _ j (by rw [h]; simp)
  rw [hj] at h1; cases h1
  unfold parOf
  rw [(List.find?_eq_some_iff_getElem (xs := l) (p := fun c => decide (c.1 = name)) (b := c)).2 ⟨h2, j, (List.getElem?_eq_some_iff.1 hj).1, (List.getElem?_eq_some_iff.1 hj).2, fun i hi => by
    have hl := (List.getElem?_eq_some_iff.1 hj).1
    have := h3 (l[i]'(by omega)) (by rw [List.mem_take_iff_getElem]; exact ⟨i, by omega, rfl⟩)
    simpa using this⟩]

def PairB (x : ByteArray × Bool) (w : World) (e : Ending) (w' : World) : Prop := e = .returned (.tuple #[.string x.1, .bool x.2]) ∧ Below w.heap.size w w'

theorem zeroPar (w : World) : (zeroValue 58).run Tryd.prog w = .ok (.agg #[.string ByteArray.empty, .string ByteArray.empty]) w := by kernel_rfl

end Go.Proofs.YtcfbmfcobpfcjaaDoor
