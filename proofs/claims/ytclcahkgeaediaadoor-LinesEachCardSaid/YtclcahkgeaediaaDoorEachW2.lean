/- The anchor of chapter 7: it holds. -/
import Derived.Test.YtclcahkgeaediaaDoorEachW
import Derived.Test.YtclcahkgeaediaaDoorLinJ
import Derived.Test.YtclcahkgeaediaaDoorFold1
namespace Go.Proofs.YtclcahkgeaediaaDoor
open Go.RowKit Lift
set_option linter.unusedSimpArgs false
set_option linter.unusedVariables false

theorem fold_works : foldW ⟨#[97, 98, 32, 99, 100, 32, 101, 102]⟩ 5 = [⟨#[97, 98, 32, 99, 100]⟩, ⟨#[32, 101, 102]⟩] := by kernel_rfl
theorem lines_works : linesB [] (⟨#[97, 13, 10, 32, 98, 13, 10, 99]⟩ : ByteArray).data.toList = [⟨#[97]⟩, ⟨#[32, 98]⟩, ⟨#[99]⟩] := by kernel_rfl
theorem numb_works : numb [⟨#[97]⟩, ⟨#[32, 98]⟩, ⟨#[99]⟩] 3 = [(1, ⟨#[97, 32, 98]⟩), (3, ⟨#[99]⟩)] := by kernel_rfl
theorem sum_works : ([(1, ⟨#[97, 32, 98]⟩), (3, ⟨#[99]⟩)] : List NL).foldl sumN 0 = 6 := by kernel_rfl
theorem lines_works2 : linesB [] (⟨#[97, 13, 10, 13, 10, 98]⟩ : ByteArray).data.toList = [⟨#[97]⟩, ⟨#[]⟩, ⟨#[98]⟩] := by kernel_rfl

theorem str_block {S P : Nat → Prop} {w : World} {ao : Option Addr} {l : List ByteArray} (h : SlAt Rd.str S w ao l) (hb : ∀ a, ao = some a → P a.block) : SlAt Rd.str P w ao l := by
  rcases h with rfl | ⟨b, off, rfl, h1, h2, h3⟩
  · exact .inl rfl
  · exact .inr ⟨b, off, rfl, hb _ rfl, h2, fun k c hk => h3 k c hk⟩
set_option maxHeartbeats 8000000 in
set_option maxRecDepth 100000 in
theorem works_any (w : World) (hT : Lib.Utf8Tabs 1 2 w) : Calls Tryd.prog 14 #[] w (BelowPost (.bool true) w) := by
  have HF := Lib.hid (fold_any ⟨#[97, 98, 32, 99, 100, 32, 101, 102]⟩ 5 w (by decide) (Wf.of (by omega) (by omega)) (fun x w' hx0 hx hb => lastAny_any x ⟨#[32, 9]⟩ w' (by decide) (by decide) (by omega) bl_low (tabs_below hT hb)))
  rw [fold_works] at HF
  have HE := Lib.hid (fun w => each_any ⟨#[97, 13, 10, 32, 98, 13, 10, 99]⟩ w (by decide))
  rw [lines_works] at HE
  have HS := Lib.hid (fun w => split_any ⟨#[97, 13, 10, 13, 10, 98]⟩ w (by decide))
  rw [lines_works2] at HS
  clear hT
  go_enter Tryd.func14, Tryd.ntmps14
  go_wp2_with fail
  refine HF.out.mono ?_
  rintro e w1 ⟨ao, cap, rfl, hO1, hb1⟩
  go_wp2_with fail
  refine (HE.out _).mono ?_
  rintro e w2 ⟨B, ao2, cap2, rfl, hB1, hB2, hcB, hc1, hc2, hl2, hab, hb2⟩
  have hA1 : Below w1.heap.size w1 (w1.alloc (.cells #[.int .i64 0] 3)) := (Below.refl _ _).alloc (Nat.le_refl _) _
  rw [World.size_alloc] at hB1
  have hn2 : w2.cell? ⟨w1.heap.size, 0, none⟩ = some (.int .i64 0) := (hb2.cell (p := ⟨w1.heap.size, 0, none⟩) (by simp)).trans (by simp [go_sem])
  have hf2 : w2.frozen? ⟨w1.heap.size, 0, none⟩ = false := (hb2.frozen (p := ⟨w1.heap.size, 0, none⟩) (by simp)).trans (by simp [go_sem])
  have hlt2 : w1.heap.size < w2.heap.size := by omega
  have hnf : ∀ w, (binOp BinOp.eql 28 (Value.func (Fn.func 26) #[] #[Value.pointer (some ⟨B, 0, none⟩)]) Value.nilFunc).run Tryd.prog w = .ok (.bool false) w := fun w => by first | rfl | kernel_rfl | (simp [binOp])
  have HW := Lib.hid (whole1_fn 19 (.pointer (some ⟨w1.heap.size, 0, none⟩)) (fun args w => by kernel_rfl) B (fun k => k = w1.heap.size) ao2 cap2 [⟨#[97]⟩, ⟨#[32, 98]⟩, ⟨#[99]⟩] (by simp) (by decide) hc1 hc2
    (fun pre W => W.cell? ⟨w1.heap.size, 0, none⟩ = some (.int .i64 (pre.foldl sumN 0)) ∧ W.frozen? ⟨w1.heap.size, 0, none⟩ = false ∧ w1.heap.size < W.heap.size)
    w2 (fun pre A B h hb => ⟨(hb.cell (p := ⟨w1.heap.size, 0, none⟩) h.2.2).trans h.1, (hb.frozen (p := ⟨w1.heap.size, 0, none⟩) h.2.2).trans h.2.1, by have := hb.size; omega⟩)
    (fun pre x W1 h _ => (works1_any w1.heap.size _ x W1 h.1 h.2.1 h.2.2).mono fun e W' ⟨h1, h2⟩ => ⟨h1, by
      subst h2
      exact ⟨⟨by rw [List.foldl_append]; exact World.cell?_setCell_same _ _ _ h.1, by rw [World.frozen?_setCell]; exact h.2.1, by simpa using h.2.2⟩, Kept.setCell (X := (· = w1.heap.size)) W1 (p := ⟨w1.heap.size, 0, none⟩) rfl _⟩⟩)
    hcB hB2 (by omega) (str_block hl2 (fun a ha => by have := hab a ha; rw [World.size_alloc] at this; omega)) ⟨hn2, hf2, hlt2⟩)
  go_wp2_with fail
  refine HW.out.mono ?_
  rintro e w3 ⟨⟨v3, rfl⟩, hJ, hk3⟩
  rw [show ([⟨#[97]⟩, ⟨#[32, 98]⟩, ⟨#[99]⟩] : List ByteArray).length = 3 from rfl, numb_works, sum_works] at hJ
  obtain ⟨n3, f3, hz3⟩ := hJ
  have hB2 := chain hA1 hb2
  have hl3 := (hO1.here.old hB2).kept hk3 (fun b hb _ h => by omega)
  have hz12 := hB2.size
  have hB3 : Below w.heap.size w w3 := (chain hb1 hB2).trans (hk3.below (by have := hb1.size; omega) (fun k hk => by have := hb1.size; omega))
  obtain ⟨b1, o1, rfl, hs1, hbl1, hx1, y1⟩ := str_get hl3 (k := 0) (c := ⟨#[97, 98, 32, 99, 100]⟩) rfl
  obtain ⟨b2, o2, h2, hs2, hbl2, hx2, y2⟩ := str_get hl3 (k := 1) (c := ⟨#[32, 101, 102]⟩) rfl
  cases h2
  rw [Nat.add_zero] at y1
  clear HF HE HW hO1 hc1 hc2 hl2 hab hnf hcB hB1 hB2 hl3 hk3
  go_wp2_with fail
  have hA4 : Below w3.heap.size w3 (w3.alloc (.cells #[.string ⟨#[97]⟩] 9)) := (Below.refl _ _).alloc (Nat.le_refl _) _
  have hSl : SlAt Rd.str (· < (w3.alloc (.cells #[.string ⟨#[97]⟩] 9)).heap.size) (w3.alloc (.cells #[.string ⟨#[97]⟩] 9)) (some ⟨w3.heap.size, 0, none⟩) [⟨#[97]⟩] := .inr ⟨w3.heap.size, 0, rfl, by simp, by simp, fun k c hk => by
    match k, hk with
    | 0, hk =>
      cases hk
      refine ⟨_, ⟨rfl, by decide⟩, fun i v hi => ?_⟩
      match i, hi with
      | 0, hi => cases hi; simp [go_sem]
      | i + 1, hi => simp at hi
    | k + 1, hk => simp at hk⟩
  refine (ljoin_any (some ⟨w3.heap.size, 0, none⟩) 1 [⟨#[97]⟩] _ hSl (by decide) (by decide)).mono ?_
  rintro e w4 ⟨rfl, hb4⟩
  rw [show toB (joinL [⟨#[97]⟩]) = ⟨#[97, 13, 10]⟩ from by kernel_rfl]
  have hB4 := chain hB3 (chain hA4 hb4)
  clear hSl hA4 hb4
  go_wp2_with fail
  refine (HS.out _).mono ?_
  rintro e w5 ⟨a5, c5, rfl, hO5, hb5⟩
  clear HS hO5
  go_wp2_with fail
  go_ret
  exact ⟨rfl, chain hB4 hb5⟩
end Go.Proofs.YtclcahkgeaediaaDoor
