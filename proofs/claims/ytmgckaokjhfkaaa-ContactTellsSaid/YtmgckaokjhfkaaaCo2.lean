/- Contacts: what has a name; a contact of one's own; what is in one alone; too much of one. -/
import Derived.Test.YtmgckaokjhfkaaaCo1
namespace Go.Proofs.Ytmgckaokjhfkaaa
open Go.RowKit Lift
set_option linter.unusedSimpArgs false
set_option linter.unusedVariables false


theorem fld_info0 : ∃ i0, Try.prog.info? 34 = some i0 ∧ i0.zero = some (.agg #[.string ByteArray.empty, .string ByteArray.empty, .string ByteArray.empty]) ∧ i0.size = 3 ∧ i0.bytes = 48 := info_parts fld_info

set_option maxHeartbeats 1000000 in
set_option maxRecDepth 100000 in
theorem named_any (name : ByteArray) (ao : Option Addr) (cap : Nat) (l : List Fld) (w : World) (hl : SlAt rFld (· < w.heap.size) w ao l) (hlen : l.length ≤ 100000) :
    Calls Try.prog 6 #[.agg #[.slice ao l.length cap], .string name] w (RowPost rFld 34 (l.filter fun c => decide (c.1 = name)) w) := by
  have hA : Below w.heap.size w (w.alloc (.cells #[.slice ao l.length cap] 24)) := (Below.refl _ _).alloc (Nat.le_refl _) _
  obtain ⟨i0, hi, hz0, hz1, hz2⟩ := fld_info0
  have HI := Lib.hid hi; have HZ0 := Lib.hid hz0; have HZ1 := Lib.hid hz1; have HZ2 := Lib.hid hz2
  clear hi hz0 hz1 hz2
  go_enter Try.func6, Try.ntmps6
  go_wp2_with fail
  go_loopw [5, 11] (fun v5 v6 wr => ∃ k : Nat, k ≤ l.length ∧ v6 = .int .i64 k ∧ Own rFld (fun _ => True) wr (w.heap.size + 1) 34 v5 ((l.take k).filter fun c => decide (c.1 = name)) ∧ Below (w.heap.size + 1) (w.alloc (.cells #[.slice ao l.length cap] 24)) wr) (fun _ v6 _ => l.length - (intOf v6).toNat)
  case atStart => exact ⟨0, by omega, rfl, Own.nil _ _ _ _ _, Below.refl _ _⟩
  case round =>
    obtain ⟨k, hk, rfl, hO, hb⟩ := hrel
    have hz := bsize hb
    simp only [World.size_alloc] at hz
    have hB := hA.trans (hb.mono (by omega))
    by_cases hkl : k < l.length
    · obtain ⟨c, hcl⟩ := some_at hkl
      obtain ⟨bb, oo, rfl, hs1, hb4, hok, y0, y1, y2⟩ := fld_get (hl.old hB) hcl
      have hk2 : (k : Int) < (l.length : Int) := by omega
      have hlim : k ≤ 100000 := by omega
      have HT := Lib.hid (take_at2 hcl)
      have hfl : ((l.take k).filter fun c => decide (c.1 = name)).length ≤ k := Nat.le_trans (List.length_filter_le _ _) (by simp; omega)
      have hOO := hO.alloc (.cells (cellsFld c).toArray 34)
      have hb2 := hb.alloc (by omega) (.cells (cellsFld c).toArray 34)
      by_cases hcn : c.1 = name
      · have ht : (c.1.toList == name.toList) = true := by rw [str_eq]; simpa using hcn
        have HO := Lib.hid (show ((l.take k).filter fun c => decide (c.1 = name)) ++ [c] = (l.take (k + 1)).filter fun c => decide (c.1 = name) by rw [HT.out, List.filter_append]; simp [hcn])
        clear hcn
        go_wp2_with (first | (at_builtin; refine wpList_push rFld rfl _ _ 22 rfl (w.heap.size + 1) 34 i0 _ 48 Try.underlying22 HI.out HZ0.out HZ1.out HZ2.out rfl (by decide) (fun _ => True) _ ((l.take k).filter fun c => decide (c.1 = name)) rfl hOO (cellsFld c) c _ rfl (by simp) (fld_rel _ _ c hok) (by simp [cellsFld, Value.oneCell']) (by unfold maxLen; omega) (by omega) (by first | omega | (simp; omega)) ?_; intro v2 w2 hO2 hK2 hw2))
        have hB2 := hOO.kbelow (B := w.heap.size + 1) (by omega) (by simp; omega) hK2
        go_roundw
        case measure => simp [intOf]; omega
        case rel => exact ⟨k + 1, by omega, by go_num, by rw [← HO.out]; exact hO2, hb2.trans hB2⟩
      · have ht : (c.1.toList == name.toList) = false := by rw [str_eq]; simpa using hcn
        have HO := Lib.hid (show ((l.take k).filter fun c => decide (c.1 = name)) = (l.take (k + 1)).filter fun c => decide (c.1 = name) by rw [HT.out, List.filter_append]; simp [hcn])
        clear hcn
        go_wp2_with fail
        go_roundw
        case measure => simp [intOf]; omega
        case rel => exact ⟨k + 1, by omega, by go_num, by rw [← HO.out]; exact hOO, hb2⟩
    · obtain rfl : k = l.length := by omega
      rw [List.take_length] at hO
      obtain ⟨ao2, cap2, rfl⟩ := hO.form
      go_wp2_with fail
      go_ret
      exact ⟨ao2, cap2, rfl, hO.rebase (by omega), hB⟩

set_option maxHeartbeats 1000000 in
set_option maxRecDepth 100000 in
theorem named_ref (name : ByteArray) (ao : Option Addr) (cap : Nat) (l : List Fld) (w : World) (hl : SlAt rFld (· < w.heap.size) w ao l) (hlen : l.length ≤ 100000) :
    Calls Try.prog 11 #[.agg #[.slice ao l.length cap], .string name] w (RowPost rFld 34 (l.filter fun c => decide (c.1 = name)) w) := by
  have hA : Below w.heap.size w (w.alloc (.cells #[.slice ao l.length cap] 24)) := (Below.refl _ _).alloc (Nat.le_refl _) _
  obtain ⟨i0, hi, hz0, hz1, hz2⟩ := fld_info0
  have HI := Lib.hid hi; have HZ0 := Lib.hid hz0; have HZ1 := Lib.hid hz1; have HZ2 := Lib.hid hz2
  clear hi hz0 hz1 hz2
  go_enter Try.func11, Try.ntmps11
  go_wp2_with fail
  go_loopw [5, 6] (fun v5 v6 wr => ∃ k : Nat, k ≤ l.length ∧ v6 = .int .i64 k ∧ Own rFld (fun _ => True) wr (w.heap.size + 1) 34 v5 ((l.take k).filter fun c => decide (c.1 = name)) ∧ Below (w.heap.size + 1) (w.alloc (.cells #[.slice ao l.length cap] 24)) wr) (fun _ v6 _ => l.length - (intOf v6).toNat)
  case atStart => exact ⟨0, by omega, rfl, Own.nil _ _ _ _ _, Below.refl _ _⟩
  case round =>
    obtain ⟨k, hk, rfl, hO, hb⟩ := hrel
    have hz := bsize hb
    simp only [World.size_alloc] at hz
    obtain ⟨hc, hf⟩ := bcell hb
    have bx0 : wr.cell? ⟨w.heap.size, 0, none⟩ = some (.slice ao l.length cap) := by rw [hc _ _ (by omega)]; simp [go_sem]
    clear hc hf
    have hB := hA.trans (hb.mono (by omega))
    by_cases hkl : k < l.length
    · obtain ⟨c, hcl⟩ := some_at hkl
      obtain ⟨bb, oo, rfl, hs1, hb4, hok, y0, y1, y2⟩ := fld_get (hl.old hB) hcl
      have hk2 : (k : Int) < (l.length : Int) := by omega
      have hlim : k ≤ 100000 := by omega
      have HT := Lib.hid (take_at2 hcl)
      have hfl : ((l.take k).filter fun c => decide (c.1 = name)).length ≤ k := Nat.le_trans (List.length_filter_le _ _) (by simp; omega)
      have hOO := hO
      by_cases hcn : c.1 = name
      · have ht : (c.1.toList == name.toList) = true := by rw [str_eq]; simpa using hcn
        have HO := Lib.hid (show ((l.take k).filter fun c => decide (c.1 = name)) ++ [c] = (l.take (k + 1)).filter fun c => decide (c.1 = name) by rw [HT.out, List.filter_append]; simp [hcn])
        clear hcn
        go_wp2_with (first | (at_builtin; refine wpList_push rFld rfl _ _ 22 rfl (w.heap.size + 1) 34 i0 _ 48 Try.underlying22 HI.out HZ0.out HZ1.out HZ2.out rfl (by decide) (fun _ => True) _ ((l.take k).filter fun c => decide (c.1 = name)) rfl hOO (cellsFld c) c _ rfl (by simp) (fld_rel _ _ c hok) (by simp [cellsFld, Value.oneCell']) (by unfold maxLen; omega) (by omega) (by first | omega | (simp; omega)) ?_; intro v2 w2 hO2 hK2 hw2))
        have hB2 := hOO.kbelow (B := w.heap.size + 1) (by omega) (by omega) hK2
        go_roundw
        case measure => simp [intOf]; omega
        case rel => exact ⟨k + 1, by omega, by go_num, by rw [← HO.out]; exact hO2, hb.trans hB2⟩
      · have ht : (c.1.toList == name.toList) = false := by rw [str_eq]; simpa using hcn
        have HO := Lib.hid (show ((l.take k).filter fun c => decide (c.1 = name)) = (l.take (k + 1)).filter fun c => decide (c.1 = name) by rw [HT.out, List.filter_append]; simp [hcn])
        clear hcn
        go_wp2_with fail
        go_roundw
        case measure => simp [intOf]; omega
        case rel => exact ⟨k + 1, by omega, by go_num, by rw [← HO.out]; exact hOO, hb⟩
    · obtain rfl : k = l.length := by omega
      rw [List.take_length] at hO
      obtain ⟨ao2, cap2, rfl⟩ := hO.form
      go_wp2_with fail
      go_ret
      exact ⟨ao2, cap2, rfl, hO.rebase (by omega), hB⟩

/-- A contact of the call's own. -/
def ConPost (l : List Fld) (w : World) (x : Ending) (w' : World) : Prop := ∃ ao cap, x = .returned (.agg #[.slice ao l.length cap]) ∧ Own rFld (fun _ => True) w' w.heap.size 34 (.slice ao l.length cap) l ∧ Below w.heap.size w w'
set_option maxHeartbeats 1000000 in
set_option maxRecDepth 100000 in
theorem con_own (ao : Option Addr) (cap : Nat) (l : List Fld) (w : World) (hl : SlAt rFld (· < w.heap.size) w ao l) (hcap : ao = none → cap = 0) (hlen : l.length ≤ 100000) :
    Calls Try.prog 7 #[.agg #[.slice ao l.length cap]] w (ConPost l w) := by
  have hA : Below w.heap.size w ((w.alloc (.cells #[.slice ao l.length cap] 24)).alloc (.cells #[.slice none 0 0] 24)) := ((Below.refl _ _).alloc (Nat.le_refl _) _).alloc (by simp) _
  have hA2 := hA.alloc (by simp; omega) (.cells #[] 34)
  obtain ⟨i0, hi, hz0, hz1, hz2⟩ := fld_info0
  have HI := Lib.hid hi; have HZ0 := Lib.hid hz0; have HZ1 := Lib.hid hz1; have HZ2 := Lib.hid hz2
  have HC := Lib.hid hcap
  clear hi hz0 hz1 hz2 hcap
  go_enter Try.func7, Try.ntmps7
  go_wp2_with (first
    | (at_builtin; refine wpList_pushAll rFld rfl _ _ 22 rfl (w.heap.size + 1 + 1) 34 i0 _ 48 Try.underlying22 HI.out HZ0.out HZ1.out HZ2.out rfl (by decide) (fun _ => True) (.slice (some ⟨w.heap.size + 1 + 1, 0, none⟩) 0 0) [] rfl (own_made2 _ _ _ _ _ _ (by simp) (by simp)) _ cap l rfl HC.out ((hl.old hA2).apart (fun k hk => by cases hk; simp; omega)) fld_one (by unfold maxLen; simp; omega) (by simp; omega) (by simp) ?_; intro v2 w2 hO2 hK2 hw2; rw [List.nil_append] at hO2; obtain ⟨ao2, cap2, rfl⟩ := hO2.form; clear hw2; have hK : Kept (· = w.heap.size + 1 + 1) (((w.alloc (.cells #[.slice ao l.length cap] 24)).alloc (.cells #[.slice none 0 0] 24)).alloc (.cells #[] 34)) w2 := hK2.wide (fun k _ h => by cases h; rfl); clear hK2;
       have y0 : w2.cell? ⟨w.heap.size + 1, 0, none⟩ = some (.slice none 0 0) := by rw [hK.cell (p := ⟨w.heap.size + 1, 0, none⟩) (by simp) (by simp)]; simp [go_sem];
       have f1 : w2.frozen? ⟨w.heap.size + 1, 0, none⟩ = false := by rw [hK.frozen (p := ⟨w.heap.size + 1, 0, none⟩) (by simp) (by simp)]; simp [go_sem];
       have hz := hK.size; simp only [World.size_alloc] at hz))
  have hB := hA2.trans (hK.below (by simp; omega) (fun k h => by omega))
  refine bodyPost_ret (v := .agg #[.slice ao2 l.length cap2]) (by simp [results, Try.results7, go_sem, y0]) rfl ?_
  have hKf : ∀ wf, Kept (fun k => w.heap.size ≤ k ∧ k < w.heap.size + 1 + 1) w2 wf → ConPost l w (.returned (.agg #[.slice ao2 l.length cap2])) wf :=
    fun wf hk => ⟨_, _, rfl, (hO2.low fld_flat (hk.wide (fun k _ h => h.2))).rebase (by omega), hB.trans (hk.below hB.size (fun k h => h.1))⟩
  refine hKf _ ?_
  ((repeat (with_reducible refine Kept.set ?_ (by first | omega | (constructor <;> (first | omega | (simp; omega) | (simp; done))) | (simp; omega) | (simp; done)))); with_reducible exact Kept.refl _ _)
end Go.Proofs.Ytmgckaokjhfkaaa
