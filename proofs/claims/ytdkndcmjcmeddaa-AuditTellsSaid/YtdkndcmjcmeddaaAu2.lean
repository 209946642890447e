/- The predicates of Sound; twice. -/
import Derived.Test.YtdkndcmjcmeddaaAu1
import Derived.Test.YtdkndcmjcmeddaaIMap
namespace Go.Proofs.Ytdkndcmjcmeddaa
open Go.RowKit Lift
set_option linter.unusedSimpArgs false
set_option linter.unusedVariables false

set_option maxHeartbeats 1000000 in
set_option maxRecDepth 100000 in
theorem pred3 (a : Nat) (s : Sd) (B : Nat) (W : World) (ha : a < B) (hB : B ≤ W.heap.size) (hc : SdBox W a s) (hs : SdOk B W s) : PredOf okEnt encEnt 22 [.pointer (some ⟨a, 0, none⟩)] (fun c => oneB s.g c.1) B W := by
  refine ⟨fun args w => by kernel_rfl, fun w c hok hb => ?_⟩
  obtain ⟨x0, x1, x2, x3⟩ := hc.old hb ha
  have hs2 := hs.old hb
  have hlt : a < w.heap.size := by have := hb.size; omega
  have hBw : B ≤ w.heap.size := by have := hb.size; omega
  clear hb hc
  have hb1 : Below w.heap.size w (w.alloc (.cells (cellsEnt c).toArray 37)) := (Below.refl _ _).alloc (Nat.le_refl _) _
  have HO := Lib.hid (one_any s.ga s.gc s.g c.1 _ (((hs2.up hBw).old hb1).g.here) (by have := hs.gl; omega))
  show Calls Try.prog 22 #[encEnt c, .pointer (some ⟨a, 0, none⟩)] w _
  unfold encEnt
  go_enter Try.func22, Try.ntmps22
  go_wp2_with fail
  refine HO.out.mono ?_
  rintro e w3 ⟨rfl, hb3⟩
  go_wp2_with fail
  go_ret
  exact ⟨rfl, chain hb1 hb3⟩
set_option maxHeartbeats 1000000 in
set_option maxRecDepth 100000 in
theorem pred4 (a : Nat) (s : Sd) (B : Nat) (W : World) (ha : a < B) (hB : B ≤ W.heap.size) (hc : SdBox W a s) (hs : SdOk B W s) : PredOf okPai encPai 25 [.pointer (some ⟨a, 0, none⟩)] (fun c => !oneB s.e c.1 && !oneB s.g c.1) B W := by
  refine ⟨fun args w => by kernel_rfl, fun w c hok hb => ?_⟩
  have hsb := hc.old hb ha
  have hs2 := hs.old hb
  have hlt : a < w.heap.size := by have := hb.size; omega
  have hBw : B ≤ w.heap.size := by have := hb.size; omega
  clear hb hc
  have hb1 : Below w.heap.size w (w.alloc (.cells (cellsPai c).toArray 48)) := (Below.refl _ _).alloc (Nat.le_refl _) _
  have hs3 := (hs2.up hBw).old hb1
  have HO := Lib.hid (one_any s.ea s.ec s.e c.1 _ hs3.e.here (by have := hs.el; omega))
  have HO2 := Lib.hid (show ∀ w', Below (w.heap.size + 1) (w.alloc (.cells (cellsPai c).toArray 48)) w' → Calls Try.prog 14 #[.slice s.ga s.g.length s.gc, .int .i64 c.1] w' (BelowPost (.bool (oneB s.g c.1)) w') from fun w' h =>
    one_any s.ga s.gc s.g c.1 w' ((hs3.up (Nat.le_succ _)).old h).g.here (by have := hs.gl; omega))
  have HC := Lib.hid (show ∀ w', Below (w.heap.size + 1) (w.alloc (.cells (cellsPai c).toArray 48)) w' → w'.cell? ⟨a, 1, none⟩ = some (.slice s.ga s.g.length s.gc) ∧ w'.cell? ⟨w.heap.size, 0, none⟩ = some (.int .i64 c.1) from fun w' h =>
    ⟨((hsb.old hb1 hlt).old h (by omega)).2.1, (h.cell (p := ⟨w.heap.size, 0, none⟩) (by simp)).trans (by simp [go_sem, cellsPai])⟩)
  obtain ⟨x0, x1, x2, x3⟩ := hsb
  show Calls Try.prog 25 #[encPai c, .pointer (some ⟨a, 0, none⟩)] w _
  unfold encPai
  cases ho : oneB s.e c.1 with
  | true =>
    rw [ho] at HO
    clear ho
    go_enter Try.func25, Try.ntmps25
    go_wp2_with fail
    refine HO.out.mono ?_
    rintro e w3 ⟨rfl, hb3⟩
    go_wp2_with fail
    go_ret
    exact ⟨rfl, chain hb1 hb3⟩
  | false =>
    rw [ho] at HO
    clear ho
    go_enter Try.func25, Try.ntmps25
    go_wp2_with fail
    refine HO.out.mono ?_
    rintro e w3 ⟨rfl, hb3⟩
    have hb3' := hb3
    simp only [World.size_alloc] at hb3'
    obtain ⟨z1, z2⟩ := HC.out w3 hb3'
    have HO3 := Lib.hid (HO2.out w3 hb3')
    clear hb3'
    go_wp2_with fail
    refine HO3.out.mono ?_
    rintro e w4 ⟨rfl, hb4⟩
    go_wp2_with fail
    go_ret
    exact ⟨ret_bool (by simp), chain (chain hb1 hb3) hb4⟩
theorem empty_eq (t : ByteArray) : (t.toList == []) = decide (t = ByteArray.empty) := by
  have := str_eq t ByteArray.empty
  simpa using this
def emptyB (t : ByteArray) : Bool := t.toList == []
set_option maxHeartbeats 1000000 in
set_option maxRecDepth 100000 in
theorem pred5 (B : Nat) (W : World) : PredOf okEnt encEnt 26 [] (fun c => emptyB c.2.2.2) B W := by
  refine ⟨fun args w => by kernel_rfl, fun w c hok hb => ?_⟩
  clear hb
  show Calls Try.prog 26 #[encEnt c] w _
  unfold encEnt
  go_enter Try.func26, Try.ntmps26
  go_wp2_with fail
  go_ret
  exact ⟨ret_bool (by simp [emptyB]), (Below.refl _ _).alloc (Nat.le_refl _) _⟩
set_option maxHeartbeats 1000000 in
set_option maxRecDepth 100000 in
theorem pred6 (B : Nat) (W : World) : PredOf okRec encRec 28 [] (fun c => c.2.1 != !emptyB c.2.2.2.1) B W := by
  refine ⟨fun args w => by kernel_rfl, fun w c hok hb => ?_⟩
  clear hb
  show Calls Try.prog 28 #[encRec c] w _
  unfold encRec
  go_enter Try.func28, Try.ntmps28
  go_wp2_with fail
  go_ret
  exact ⟨ret_bool (by simp [emptyB, bne]), (Below.refl _ _).alloc (Nat.le_refl _) _⟩
end Go.Proofs.Ytdkndcmjcmeddaa
