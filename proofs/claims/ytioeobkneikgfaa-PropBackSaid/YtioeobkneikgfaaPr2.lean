/- What is left of a property without a parameter: the program's. -/
import Derived.Test.YtioeobkneikgfaaPr1
namespace Go.Proofs.Ytioeobkneikgfaa
open Go.RowKit Lift
set_option linter.unusedSimpArgs false
set_option linter.unusedVariables false

theorem par_info0 : ∃ i0, Try.prog.info? 42 = some i0 ∧ i0.zero = some (.agg #[.string ByteArray.empty, .string ByteArray.empty]) ∧ i0.size = 2 ∧ i0.bytes = 32 := info_parts par_info
set_option maxHeartbeats 1000000 in
set_option maxRecDepth 100000 in
theorem delete_nil (g : FuncId) (b1 : Value) (p : Par → Bool) (w : World) (hp : PredOf okPar encPar g [b1] p w.heap.size w) :
    Calls Try.prog 26 #[.slice none 0 0, .func (.func g) #[] #[b1]] w (BelowPost (.slice none 0 0) w) := by
  have HX := Lib.hid (index_par1 none 0 [] g b1 p w (.inl rfl) (by simp) hp)
  clear hp
  go_enter Try.func26, Try.ntmps26
  go_wp2_with fail
  refine HX.out.mono ?_
  rintro e w3 ⟨rfl, hb3⟩
  rw [idx]
  go_wp2_with fail
  go_ret
  exact ⟨rfl, hb3⟩

set_option maxHeartbeats 1000000 in
set_option maxRecDepth 100000 in
theorem clone_nil (w : World) : Calls Try.prog 27 #[.slice none 0 0] w (BelowPost (.slice none 0 0) w) := by
  have heq := fun (w : World) (a : Option Addr) (n c : Nat) => Lib.run_eql_slice_nil (P := Try.prog) w 22 42 a n c 0 0 Try.underlying22
  go_enter Try.func27, Try.ntmps27
  go_wp2_with fail
  go_ret
  exact ⟨rfl, Below.refl _ _⟩
set_option maxHeartbeats 1000000 in
set_option maxRecDepth 100000 in
theorem clone_par (a0 : Addr) (cap : Nat) (l : List Par) (w : World) (hl : SlAt rPar (· < w.heap.size) w (some a0) l) (hlen : l.length ≤ 100000) :
    Calls Try.prog 27 #[.slice (some a0) l.length cap] w (SomeRow rPar 42 l w) := by
  obtain ⟨i0, hi, hz0, hz1, hz2⟩ := par_info0
  have HI := Lib.hid hi; have HZ0 := Lib.hid hz0; have HZ1 := Lib.hid hz1; have HZ2 := Lib.hid hz2
  clear hi hz0 hz1 hz2
  have heq := fun (w : World) (a : Option Addr) (n c : Nat) => Lib.run_eql_slice_nil (P := Try.prog) w 22 42 a n c 0 0 Try.underlying22
  go_enter Try.func27, Try.ntmps27
  go_wp2_with (first
    | (at_builtin; refine wpList_pushAll rPar rfl _ _ 22 rfl w.heap.size 42 i0 _ 32 Try.underlying22 HI.out HZ0.out HZ1.out HZ2.out rfl (by decide) (fun _ => True) _ [] rfl (own_made _ _ _ _ _ (by omega)) _ cap l rfl (by intro h; cases h) ((hl.old ((Below.refl _ _).alloc (Nat.le_refl _) _)).apart (fun k hk => by cases hk; exact Nat.le_refl _)) par_one (by unfold maxLen; simp; omega) (by simp; omega) (by simp) ?_; intro v2 w2 hO2 hK2 hw2))
  have hB2 : Below w.heap.size w w2 := (Below.refl _ _).alloc (Nat.le_refl _) _ |>.trans (hK2.below (by simp) (fun k hk => by cases hk; exact Nat.le_refl _))
  have hn : v2.ownBlock ≠ none := by
    rcases hw2 with h | ⟨g, h, _⟩
    · rw [h]; intro h; cases h
    · rw [h]; intro h; cases h
  clear hK2 hw2
  rw [List.nil_append] at hO2
  obtain ⟨ao2, cap2, rfl⟩ := hO2.form
  obtain ⟨g2, rfl⟩ := hO2.block hn
  go_wp2_with fail
  go_ret
  exact ⟨g2, cap2, rfl, hO2, hB2⟩

def PropPost (g n : ByteArray) (l : List Par) (v : ByteArray) (aa : Option Addr) (na ca : Nat) (w : World) (x : Ending) (w' : World) : Prop := ∃ ao cap, x = .returned (propV g n ao l.length cap v aa na ca) ∧ Own rPar (fun _ => True) w' w.heap.size 42 (.slice ao l.length cap) l ∧ Below w.heap.size w w'
set_option maxHeartbeats 1000000 in
set_option maxRecDepth 100000 in
theorem isName2 (a : Nat) (name : ByteArray) (B : Nat) (W : World) (ha : a < B) (hB : B ≤ W.heap.size) (hc : W.cell? ⟨a, 0, none⟩ = some (.string name)) : PredOf okPar encPar 28 [.pointer (some ⟨a, 0, none⟩)] (fun c => decide (c.1 = name)) B W := by
  refine ⟨fun args w => by kernel_rfl, fun w c hok hb => ?_⟩
  have hcw := (hb.cell (p := ⟨a, 0, none⟩) ha).trans hc
  have hlt : a < w.heap.size := by have := hb.size; omega
  clear hb hc
  show Calls Try.prog 28 #[.agg #[.string c.1, .string c.2], .pointer (some ⟨a, 0, none⟩)] w _
  go_enter Try.func28, Try.ntmps28
  go_wp2_with fail
  go_ret
  exact ⟨ret_bool (str_eq _ _), (Below.refl _ _).alloc (Nat.le_refl _) _⟩
set_option maxHeartbeats 1000000 in
set_option maxRecDepth 100000 in
theorem without_some (g n v name : ByteArray) (aa : Option Addr) (na ca : Nat) (a0 : Addr) (cap : Nat) (l : List Par) (w : World) (hl : SlAt rPar (· < w.heap.size) w (some a0) l) (hlen : l.length ≤ 100000) :
    Calls Try.prog 12 #[propV g n (some a0) l.length cap v aa na ca, .string name] w (PropPost g n (l.filter fun c => !decide (c.1 = name)) v aa na ca w) := by
  unfold propV
  have hb1 : Below w.heap.size w (((w.alloc (Obj.cells #[Value.string g, Value.string n, Value.slice (some a0) l.length cap, Value.string v, Value.slice aa na ca] 25)).alloc (Obj.cells #[Value.string name] 9)).alloc (Obj.cells #[.string ByteArray.empty, .string ByteArray.empty, .slice none 0 0, .string ByteArray.empty, .slice none 0 0] 25)) := (((Below.refl _ _).alloc (Nat.le_refl _) _).alloc (by simp) _).alloc (by simp; omega) _
  have HC := Lib.hid (clone_par a0 cap l _ (hl.old hb1).here hlen)
  have hN := Lib.hid (isName2 (w.heap.size + 1) name (((w.alloc (Obj.cells #[Value.string g, Value.string n, Value.slice (some a0) l.length cap, Value.string v, Value.slice aa na ca] 25)).alloc (Obj.cells #[Value.string name] 9)).alloc (Obj.cells #[.string ByteArray.empty, .string ByteArray.empty, .slice none 0 0, .string ByteArray.empty, .slice none 0 0] 25)).heap.size (((w.alloc (Obj.cells #[Value.string g, Value.string n, Value.slice (some a0) l.length cap, Value.string v, Value.slice aa na ca] 25)).alloc (Obj.cells #[Value.string name] 9)).alloc (Obj.cells #[.string ByteArray.empty, .string ByteArray.empty, .slice none 0 0, .string ByteArray.empty, .slice none 0 0] 25)) (by simp) (Nat.le_refl _) (by simp [go_sem]))
  go_enter Try.func12, Try.ntmps12
  go_wp2_with fail
  refine HC.out.mono ?_
  rintro e w3 ⟨g3, cap3, rfl, hO3, hb3⟩
  have hs0 := hO3.lt g3 rfl
  obtain ⟨hc3, hf3⟩ := bcell hb3
  have hz3 := bsize hb3
  have hD := Lib.hid (delete_par1 g3 cap3 _ l 28 (.pointer (some ⟨w.heap.size + 1, 0, none⟩)) (fun c => decide (c.1 = name)) _ _ hO3 hlen hb3 hN.out)
  simp only [World.size_alloc] at hc3 hf3 hz3 hs0
  go_wp2_with fail
  refine hD.out.mono ?_
  rintro e w4 ⟨rfl, hO4, hK4⟩
  have hc4 : ∀ b o, b < w.heap.size + 1 + 1 + 1 → w4.cell? ⟨b, o, none⟩ = _ := fun b o h => (hK4.cell (p := ⟨b, o, none⟩) (by simp; omega) (by simp; omega)).trans (hc3 b o h)
  have hf4 : ∀ b o, b < w.heap.size + 1 + 1 + 1 → w4.frozen? ⟨b, o, none⟩ = _ := fun b o h => (hK4.frozen (p := ⟨b, o, none⟩) (by simp; omega) (by simp; omega)).trans (hf3 b o h)
  have hz4 := hK4.size
  clear hc3 hf3
  have x0 : w4.cell? ⟨w.heap.size, 0, none⟩ = some (.string g) := by rw [hc4 _ _ (by omega)]; first | (simp [go_sem]; done) | (simp [go_sem]; rfl)
  have x1 : w4.cell? ⟨w.heap.size, 1, none⟩ = some (.string n) := by rw [hc4 _ _ (by omega)]; first | (simp [go_sem]; done) | (simp [go_sem]; rfl)
  have x2 : w4.cell? ⟨w.heap.size, 2, none⟩ = some (.slice (some a0) l.length cap) := by rw [hc4 _ _ (by omega)]; first | (simp [go_sem]; done) | (simp [go_sem]; rfl)
  have x3 : w4.cell? ⟨w.heap.size, 3, none⟩ = some (.string v) := by rw [hc4 _ _ (by omega)]; first | (simp [go_sem]; done) | (simp [go_sem]; rfl)
  have x4 : w4.cell? ⟨w.heap.size, 4, none⟩ = some (.slice aa na ca) := by rw [hc4 _ _ (by omega)]; first | (simp [go_sem]; done) | (simp [go_sem]; rfl)
  have y0 : w4.cell? ⟨w.heap.size + 1 + 1, 0, none⟩ = some (.string ByteArray.empty) := by rw [hc4 _ _ (by omega)]; first | (simp [go_sem]; done) | (simp [go_sem]; rfl)
  have y1 : w4.cell? ⟨w.heap.size + 1 + 1, 1, none⟩ = some (.string ByteArray.empty) := by rw [hc4 _ _ (by omega)]; first | (simp [go_sem]; done) | (simp [go_sem]; rfl)
  have y2 : w4.cell? ⟨w.heap.size + 1 + 1, 2, none⟩ = some (.slice none 0 0) := by rw [hc4 _ _ (by omega)]; first | (simp [go_sem]; done) | (simp [go_sem]; rfl)
  have y3 : w4.cell? ⟨w.heap.size + 1 + 1, 3, none⟩ = some (.string ByteArray.empty) := by rw [hc4 _ _ (by omega)]; first | (simp [go_sem]; done) | (simp [go_sem]; rfl)
  have y4 : w4.cell? ⟨w.heap.size + 1 + 1, 4, none⟩ = some (.slice none 0 0) := by rw [hc4 _ _ (by omega)]; first | (simp [go_sem]; done) | (simp [go_sem]; rfl)
  clear hc4
  go_wp2_with fail
  refine bodyPost_ret (v := propV g n (some ⟨g3, 0, none⟩) (l.filter fun c => !decide (c.1 = name)).length cap3 v aa na ca) (by simp [propV, results, Try.results12, go_sem, y0, y1, y2, y3, y4]) rfl ?_
  have hB4 : Below w.heap.size w w4 := (chain hb1 hb3).trans (hK4.below (by omega) (fun k hk => by omega))
  have hKf : ∀ wf, Kept (fun k => w.heap.size ≤ k ∧ k < w.heap.size + 1 + 1 + 1) w4 wf → ∃ (ao : Option Addr) (cap : Nat), Ending.returned (propV g n (some ⟨g3, 0, none⟩) (l.filter fun c => !decide (c.1 = name)).length cap3 v aa na ca) = .returned (propV g n ao (l.filter fun c => !decide (c.1 = name)).length cap v aa na ca) ∧ Own rPar (fun _ => True) wf w.heap.size 42 (.slice ao (l.filter fun c => !decide (c.1 = name)).length cap) (l.filter fun c => !decide (c.1 = name)) ∧ Below w.heap.size w wf :=
    fun wf hk => ⟨_, _, rfl, (hO4.low par_flat (hk.wide (fun k _ h => by simp; omega))).rebase (by simp; omega), hB4.trans (hk.below (by omega) (fun k h => h.1))⟩
  refine hKf _ ?_
  ((repeat (with_reducible refine Kept.set ?_ (by first | omega | (constructor <;> (first | omega | (simp; omega) | (simp; done))) | (simp; omega) | (simp; done)))); with_reducible exact Kept.refl _ _)

set_option maxHeartbeats 1000000 in
set_option maxRecDepth 100000 in
theorem without_nil (g n v name : ByteArray) (aa : Option Addr) (na ca : Nat) (w : World) :
    Calls Try.prog 12 #[propV g n none 0 0 v aa na ca, .string name] w (PropPost g n [] v aa na ca w) := by
  unfold propV
  have hb1 : Below w.heap.size w (((w.alloc (Obj.cells #[Value.string g, Value.string n, Value.slice none 0 0, Value.string v, Value.slice aa na ca] 25)).alloc (Obj.cells #[Value.string name] 9)).alloc (Obj.cells #[.string ByteArray.empty, .string ByteArray.empty, .slice none 0 0, .string ByteArray.empty, .slice none 0 0] 25)) := (((Below.refl _ _).alloc (Nat.le_refl _) _).alloc (by simp) _).alloc (by simp; omega) _
  have hN := Lib.hid (isName2 (w.heap.size + 1) name (((w.alloc (Obj.cells #[Value.string g, Value.string n, Value.slice none 0 0, Value.string v, Value.slice aa na ca] 25)).alloc (Obj.cells #[Value.string name] 9)).alloc (Obj.cells #[.string ByteArray.empty, .string ByteArray.empty, .slice none 0 0, .string ByteArray.empty, .slice none 0 0] 25)).heap.size (((w.alloc (Obj.cells #[Value.string g, Value.string n, Value.slice none 0 0, Value.string v, Value.slice aa na ca] 25)).alloc (Obj.cells #[Value.string name] 9)).alloc (Obj.cells #[.string ByteArray.empty, .string ByteArray.empty, .slice none 0 0, .string ByteArray.empty, .slice none 0 0] 25)) (by simp) (Nat.le_refl _) (by simp [go_sem]))
  go_enter Try.func12, Try.ntmps12
  go_wp2_with fail
  refine (clone_nil _).mono ?_
  rintro e w3 ⟨rfl, hb3⟩
  have hD := Lib.hid (delete_nil _ _ _ _ (hN.out.later hb3 (by have := hb3.size; simp at this ⊢; omega)))
  go_wp2_with fail
  refine hD.out.mono ?_
  rintro e w4 ⟨rfl, hb4⟩
  have hb5 := chain hb3 hb4
  obtain ⟨hc4, hf4⟩ := bcell hb5
  have hz4 := bsize hb5
  simp only [World.size_alloc] at hc4 hf4 hz4
  have x0 : w4.cell? ⟨w.heap.size, 0, none⟩ = some (.string g) := by rw [hc4 _ _ (by omega)]; first | (simp [go_sem]; done) | (simp [go_sem]; rfl)
  have x1 : w4.cell? ⟨w.heap.size, 1, none⟩ = some (.string n) := by rw [hc4 _ _ (by omega)]; first | (simp [go_sem]; done) | (simp [go_sem]; rfl)
  have x2 : w4.cell? ⟨w.heap.size, 2, none⟩ = some (.slice none 0 0) := by rw [hc4 _ _ (by omega)]; first | (simp [go_sem]; done) | (simp [go_sem]; rfl)
  have x3 : w4.cell? ⟨w.heap.size, 3, none⟩ = some (.string v) := by rw [hc4 _ _ (by omega)]; first | (simp [go_sem]; done) | (simp [go_sem]; rfl)
  have x4 : w4.cell? ⟨w.heap.size, 4, none⟩ = some (.slice aa na ca) := by rw [hc4 _ _ (by omega)]; first | (simp [go_sem]; done) | (simp [go_sem]; rfl)
  have y0 : w4.cell? ⟨w.heap.size + 1 + 1, 0, none⟩ = some (.string ByteArray.empty) := by rw [hc4 _ _ (by omega)]; first | (simp [go_sem]; done) | (simp [go_sem]; rfl)
  have y1 : w4.cell? ⟨w.heap.size + 1 + 1, 1, none⟩ = some (.string ByteArray.empty) := by rw [hc4 _ _ (by omega)]; first | (simp [go_sem]; done) | (simp [go_sem]; rfl)
  have y2 : w4.cell? ⟨w.heap.size + 1 + 1, 2, none⟩ = some (.slice none 0 0) := by rw [hc4 _ _ (by omega)]; first | (simp [go_sem]; done) | (simp [go_sem]; rfl)
  have y3 : w4.cell? ⟨w.heap.size + 1 + 1, 3, none⟩ = some (.string ByteArray.empty) := by rw [hc4 _ _ (by omega)]; first | (simp [go_sem]; done) | (simp [go_sem]; rfl)
  have y4 : w4.cell? ⟨w.heap.size + 1 + 1, 4, none⟩ = some (.slice none 0 0) := by rw [hc4 _ _ (by omega)]; first | (simp [go_sem]; done) | (simp [go_sem]; rfl)
  clear hc4
  go_wp2_with fail
  refine bodyPost_ret (v := propV g n none 0 0 v aa na ca) (by simp [propV, results, Try.results12, go_sem, y0, y1, y2, y3, y4]) rfl ?_
  have hB4 : Below w.heap.size w w4 := chain hb1 hb5
  have hKf : ∀ wf, Kept (fun k => w.heap.size ≤ k) w4 wf → PropPost g n [] v aa na ca w (.returned (propV g n none 0 0 v aa na ca)) wf := fun wf hk => ⟨none, 0, rfl, Own.nil _ _ _ _ _, hB4.trans (hk.below (by omega) (fun k h => h))⟩
  refine hKf _ ?_
  ((repeat (with_reducible refine Kept.set ?_ (by first | omega | (constructor <;> (first | omega | (simp; omega) | (simp; done))) | (simp; omega) | (simp; done)))); with_reducible exact Kept.refl _ _)
end Go.Proofs.Ytioeobkneikgfaa
