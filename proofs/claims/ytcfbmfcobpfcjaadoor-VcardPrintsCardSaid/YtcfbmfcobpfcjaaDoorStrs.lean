/- Lists of texts: how they are read; whether two are the same. -/
import Derived.Test.YtcfbmfcobpfcjaaDoorRows
import Derived.Handy
import Derived.Lib.Hide
import Derived.BigQuiet
import Derived.WalkSpells
import Derived.WalkLawsBesides
import Derived.Maps.AppendAt
import Derived.Test.YtcfbmfcobpfcjaaDoorRd2
namespace Go.Proofs.YtcfbmfcobpfcjaaDoor
open Go.RowKit Lift
set_option linter.unusedSimpArgs false
set_option linter.unusedVariables false

theorem str_get {S : Nat → Prop} {w : World} {ao : Option Addr} {l : List ByteArray} (h : SlAt Rd.str S w ao l) {k : Nat} {c : ByteArray} (hk : l[k]? = some c) : ∃ b off, ao = some ⟨b, off, none⟩ ∧ S b ∧ b < w.heap.size ∧ c.size ≤ maxTx ∧ w.cell? ⟨b, off + k, none⟩ = some (.string c) := by
  obtain ⟨b, off, cs, rfl, hs, hlt, ⟨rfl, h1⟩, hc⟩ := h.get hk
  exact ⟨b, off, rfl, hs, hlt, h1, by have := hc 0 _ rfl; simpa [Rd.str] using this⟩
theorem str_rel (S : Nat → Prop) (w : World) (c : ByteArray) (h : c.size ≤ maxTx) : Rd.str.rel S w [.string c] c := ⟨rfl, h⟩
theorem str_flat : Flat Rd.str := fun _ _ _ _ _ _ h => h
theorem str_one : ∀ S w cs (c : ByteArray), Rd.str.rel S w cs c → ∀ u ∈ cs, u.oneCell' = true := by
  rintro S w cs c ⟨rfl, _⟩ u hu; simp at hu; subst hu; rfl
theorem str_info : (Tryd.prog.info? 9).map (fun i => (i.zero, i.size, i.bytes)) = some (some (.string ByteArray.empty), 1, 16) := by kernel_rfl
theorem str_info0 : ∃ i0, Tryd.prog.info? 9 = some i0 ∧ i0.zero = some (.string ByteArray.empty) ∧ i0.size = 1 ∧ i0.bytes = 16 := info_parts str_info
theorem rStr_at : Rd.str.at Tryd.prog 9 := Rd.at_str Tryd.underlying9 (by kernel_rfl)
theorem take_same {α : Type} {l m : List α} {k : Nat} {c d : α} (h : l.take k = m.take k) (hl : l[k]? = some c) (hm : m[k]? = some d) (hcd : c = d) : l.take (k + 1) = m.take (k + 1) := by
  obtain ⟨h1, rfl⟩ := List.getElem?_eq_some_iff.1 hl
  obtain ⟨h2, rfl⟩ := List.getElem?_eq_some_iff.1 hm
  rw [List.take_succ_eq_append_getElem h1, List.take_succ_eq_append_getElem h2, h, hcd]
theorem ne_at {α : Type} {l m : List α} {k : Nat} {c d : α} (hl : l[k]? = some c) (hm : m[k]? = some d) (hcd : c ≠ d) : l ≠ m := by
  rintro rfl; rw [hl] at hm; exact hcd (Option.some.inj hm)
end Go.Proofs.YtcfbmfcobpfcjaaDoor
