/- Steps, one behind another, up to the first error: the program's. -/
import Derived.Test.YtdebfnlnpfienaaGreatDoorJnDefs
namespace Go.Proofs.YtdebfnlnpfienaaGreatDoor
open Go.RowKit Lift
set_option linter.unusedSimpArgs false
set_option linter.unusedVariables false

/-- A function value: its number, what is bound, what is captured. -/
abbrev Fv := Nat × List Value × List Value
def fvV (f : Fv) : Value := .func (.func f.1) f.2.1.toArray f.2.2.toArray
def rFv : Rd Fv where
  n := 1
  rel _ _ cs a := cs = [fvV a]
  len := by rintro _ w cs a rfl; rfl
  mono := fun _ _ _ _ _ h _ => h
  kept := fun _ _ _ _ _ _ h _ _ => h
theorem fv_flat : Flat rFv := fun _ _ _ _ _ _ h => h
theorem fv_get {S : Nat → Prop} {w : World} {ao : Option Addr} {l : List Fv} (h : SlAt rFv S w ao l) {k : Nat} {c : Fv} (hk : l[k]? = some c) : ∃ b off, ao = some ⟨b, off, none⟩ ∧ S b ∧ b < w.heap.size ∧ w.cell? ⟨b, off + k, none⟩ = some (fvV c) := by
  obtain ⟨b, off, cs, rfl, hs, hlt, rfl, hc⟩ := h.get hk
  refine ⟨b, off, rfl, hs, hlt, ?_⟩
  have := hc 0 _ rfl
  simpa [rFv] using this
set_option maxHeartbeats 8000000 in
set_option maxRecDepth 100000 in
theorem steps_any (ao : Option Addr) (cap : Nat) (fs : List Fv) (w : World) (I : Nat → World → Prop) (R : Int → World → Prop) (hlen : fs.length ≤ 1000)
    (hen : ∀ f ∈ fs, ∀ (args : Array Value) (w : World), (callFunc f.1 args).run Tryz.prog w = .ok (.enter f.1 args) w)
    (hS : ∀ k W, I k W → SlAt rFv (fun _ => True) W ao fs)
    (hc : ∀ k f, fs[k]? = some f → ∀ W, I k W → Calls Tryz.prog f.1 (f.2.1 ++ f.2.2).toArray W (fun e W' => ∃ x : Int, e = .returned (.int .i64 x) ∧ (x = 0 → I (k + 1) W') ∧ (x ≠ 0 → R x W')))
    (h0 : I 0 w) : Calls Tryz.prog 57 #[.slice ao fs.length cap] w (fun e W' => ∃ x : Int, e = .returned (.int .i64 x) ∧ ((x = 0 ∧ I fs.length W') ∨ (x ≠ 0 ∧ R x W'))) := by
  go_enter Tryz.func57, Tryz.ntmps57
  go_wp2_with fail
  go_loopw [8] (fun v8 wr => ∃ k : Nat, k ≤ fs.length ∧ v8 = .int .i64 k ∧ I k wr) (fun v _ => fs.length - (intOf v).toNat)
  case atStart => exact ⟨0, by omega, rfl, h0⟩
  case round =>
    obtain ⟨k, hk, rfl, hI⟩ := hrel
    by_cases hkl : k < fs.length
    · obtain ⟨f, hf⟩ := some_at hkl
      obtain ⟨b, off, rfl, _, hlt, hcell⟩ := fv_get (hS k wr hI) hf
      have hkl2 : (k : Int) < (fs.length : Int) := by omega
      have HC := Lib.hid (hc k f hf wr hI)
      have HE := hen f (List.mem_of_getElem? hf)
      obtain ⟨f1, f2, f3⟩ := f
      simp only [fvV] at hcell
      clear hf hS hc hen hI h0
      go_wp2_with fail
      refine HC.out.mono ?_
      rintro e w1 ⟨x, rfl, h1, h2⟩
      by_cases hx : x = 0
      · subst hx
        have hI1 := h1 rfl
        clear h1 h2 HC HE hcell
        go_wp2_with fail
        go_roundw
        case measure => simp [intOf]; omega
        case rel => exact ⟨k + 1, by omega, by go_num, hI1⟩
      · have hR := h2 hx
        have hx2 : (x == 0) = false := by simpa using hx
        clear h1 h2 HC HE hcell
        go_wp2_with fail
        go_ret
        exact ⟨x, rfl, .inr ⟨hx, hR⟩⟩
    · obtain rfl : k = fs.length := by omega
      go_wp2_with fail
      go_ret
      exact ⟨0, rfl, .inl ⟨rfl, hI⟩⟩
end Go.Proofs.YtdebfnlnpfienaaGreatDoor
