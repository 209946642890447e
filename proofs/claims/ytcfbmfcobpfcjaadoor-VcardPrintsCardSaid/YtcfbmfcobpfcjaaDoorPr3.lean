/- The reference's Param, Without and Same; a property of one's own. -/
import Derived.Test.YtcfbmfcobpfcjaaDoorPr2
namespace Go.Proofs.YtcfbmfcobpfcjaaDoor
open Go.RowKit Lift
set_option linter.unusedSimpArgs false
set_option linter.unusedVariables false

abbrev propC (g n : ByteArray) (ao : Option Addr) (len cap : Nat) (v : ByteArray) (aa : Option Addr) (na ca : Nat) : Obj := .cells #[.string g, .string n, .slice ao len cap, .string v, .slice aa na ca] 42 
abbrev prop0 : Obj := .cells #[.string ByteArray.empty, .string ByteArray.empty, .slice none 0 0, .string ByteArray.empty, .slice none 0 0] 42

theorem parOf_cons (name : ByteArray) (c : Par) (r : List Par) : parOf name (c :: r) = if c.1 = name then (c.2, true) else parOf name r := by
  unfold parOf
  rw [List.find?_cons]
  by_cases h : c.1 = name <;> simp [h]

theorem propPost_of {g n v : ByteArray} {aa : Option Addr} {na ca B : Nat} {ao : Option Addr} {cap : Nat} {l : List Par} {w wr wf : World} (hO : Own rPar (fun _ => True) wr B 58 (.slice ao l.length cap) l) (hB : Below w.heap.size w wr) (hb : w.heap.size ≤ B) (hk : Kept (fun k => w.heap.size ≤ k ∧ k < B) wr wf) :
    PropPost g n l v aa na ca w (.returned (propV g n ao l.length cap v aa na ca)) wf :=
  ⟨_, _, rfl, (hO.low par_flat (hk.wide (fun k _ h => h.2))).rebase hb, hB.trans (hk.below hB.size (fun k h => h.1))⟩

theorem own_facts {g n v : ByteArray} {aa : Option Addr} {na ca : Nat} {ao : Option Addr} {cap len : Nat} {w w2 : World} (hK : Kept (· = w.heap.size + 1 + 1) (((w.alloc (propC g n ao len cap v aa na ca)).alloc prop0).alloc (.cells #[] 58)) w2) :
    w2.cell? ⟨w.heap.size, 0, none⟩ = some (.string g) ∧ w2.cell? ⟨w.heap.size, 1, none⟩ = some (.string n) ∧ w2.cell? ⟨w.heap.size, 2, none⟩ = some (.slice ao len cap) ∧ w2.cell? ⟨w.heap.size, 3, none⟩ = some (.string v) ∧ w2.cell? ⟨w.heap.size, 4, none⟩ = some (.slice aa na ca) ∧
    w2.cell? ⟨w.heap.size + 1, 0, none⟩ = some (.string ByteArray.empty) ∧ w2.cell? ⟨w.heap.size + 1, 1, none⟩ = some (.string ByteArray.empty) ∧ w2.cell? ⟨w.heap.size + 1, 2, none⟩ = some (.slice none 0 0) ∧ w2.cell? ⟨w.heap.size + 1, 3, none⟩ = some (.string ByteArray.empty) ∧ w2.cell? ⟨w.heap.size + 1, 4, none⟩ = some (.slice none 0 0) ∧
    (∀ j, w2.frozen? ⟨w.heap.size, j, none⟩ = false) ∧ (∀ j, w2.frozen? ⟨w.heap.size + 1, j, none⟩ = false) ∧ w.heap.size + 1 + 1 + 1 ≤ w2.heap.size := by
  have hc : ∀ b o, b < w.heap.size + 1 + 1 → w2.cell? ⟨b, o, none⟩ = _ := fun b o h => hK.cell (p := ⟨b, o, none⟩) (by simp; omega) (by simp; omega)
  have hf : ∀ b o, b < w.heap.size + 1 + 1 → w2.frozen? ⟨b, o, none⟩ = _ := fun b o h => hK.frozen (p := ⟨b, o, none⟩) (by simp; omega) (by simp; omega)
  have hz := hK.size
  simp only [World.size_alloc] at hz
  refine ⟨?_, ?_, ?_, ?_, ?_, ?_, ?_, ?_, ?_, ?_, fun j => ?_, fun j => ?_, hz⟩
  all_goals first | (rw [hc _ _ (by omega)]; first | (simp [go_sem]; done) | (simp [go_sem]; rfl)) | (rw [hf _ _ (by omega)]; simp [go_sem])

end Go.Proofs.YtcfbmfcobpfcjaaDoor
