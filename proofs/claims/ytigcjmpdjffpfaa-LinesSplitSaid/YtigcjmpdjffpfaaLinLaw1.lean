/- LinesSplit holds: every text's lines, and every lines as a text, are as the reference has them. No condition. -/
import Derived.Test.YtigcjmpdjffpfaaLin4
namespace Go.Proofs.Ytigcjmpdjffpfaa
open Go.ChangeShapes Go.WideShapes Go.ChangeAt Go.RowKit Lift
open Go.ChangeMaps (open_string shut_string)
set_option linter.unusedSimpArgs false
set_option linter.unusedVariables false

theorem at_22 : Rd.str.slice.at Try.prog 22 := Rd.at_slice Try.underlying22 (by kernel_rfl) rStr_at (by decide)

set_option maxHeartbeats 1000000 in
set_option maxRecDepth 100000 in
theorem law_split (s : ByteArray) (ao : Option Addr) (cap : Nat) (l : List ByteArray) (w : World) (h : SlArg Rd.str w ao cap l) : Calls Try.prog 3 #[.string s, .slice ao l.length cap] w (TruePost w) := by
  have hll : l.length ≤ 9223372036854775807 := by have := Nat.le_trans h.le h.max; simpa [maxLen] using this
  have hl := h.at'
  clear h
  by_cases hs : s.size ≤ 2000
  · have hd : decide ((2000:Int) < (s.size : Int)) = false := by simp; omega
    have HG := Lib.hid (great_strs ao cap l w hl hll)
    cases hg : greatS 0 0 l with
    | true =>
      rw [hg] at HG
      clear hg
      go_enter Try.func3, Try.ntmps3
      go_wp2_with fail
      refine HG.out.mono ?_
      rintro e w1 ⟨rfl, hb1⟩
      go_wp2_with fail
      go_ret
      exact ⟨rfl, hb1⟩
    | false =>
      rw [hg] at HG
      obtain ⟨h1, h2⟩ := greatS_len _ _ _ hg (by omega)
      have hlen : l.length ≤ 100000 := by omega
      have hsum : sumL l ≤ 1000000 := by omega
      have hln : (linesB [] s.data.toList).length ≤ 100000 := by
        unfold linesB; rw [List.length_map]
        have := (splitA_len s.data.toList []).1
        simp at this; omega
      clear hg h1 h2
      go_enter Try.func3, Try.ntmps3
      go_wp2_with fail
      refine HG.out.mono ?_
      rintro e w1 ⟨rfl, hb1⟩
      go_wp2_with fail
      refine (split_any s _ (by omega)).mono ?_
      rintro e w2 ⟨ao2, cap2, rfl, hO2, hb2⟩
      go_wp2_with fail
      refine (split_ref s _ (by omega)).mono ?_
      rintro e w3 ⟨ao3, cap3, rfl, hO3, hb3⟩
      go_wp2_with fail
      refine (same_strs _ _ _ _ _ _ _ (hO2.below hb3).here hO3.here hln).mono ?_
      rintro e w4 ⟨rfl, hb4⟩
      rw [decide_eq_true (rfl : linesB [] s.data.toList = linesB [] s.data.toList)]
      have hB4 := chain (chain (chain hb1 hb2) hb3) hb4
      go_wp2_with fail
      refine (join_any ao cap l _ (hl.old hB4).here hlen hsum).mono ?_
      rintro e w5 ⟨rfl, hb5⟩
      have hB5 := chain hB4 hb5
      go_wp2_with fail
      refine (join_ref ao cap l _ (hl.old hB5).here hlen hsum).mono ?_
      rintro e w6 ⟨rfl, hb6⟩
      go_wp2_with fail
      go_ret
      exact ⟨rfl, chain hB5 hb6⟩
  · have hd : decide ((2000:Int) < (s.size : Int)) = true := by simp; omega
    go_enter Try.func3, Try.ntmps3
    go_wp2_with fail
    go_ret
    exact ⟨rfl, Below.refl _ _⟩

theorem split_own : ownKnob Try.prog.godebug = none := by kernel_rfl
theorem split_laid : laidOutB Try.prog = true := by kernel_rfl

set_option maxRecDepth 100000 in
theorem split_lifted (os : Os) (started : os.Started) (H : Type) (enc : TypeId × Value → H) :
    ReturnsInHanded {} Try.checked os 3 .any (Rows.linesSplitSpec.pre6 enc Try.prog Try.f3 Rows.linesSplitRow.domain false) (Rows.linesSplitSpec.post enc Try.prog Try.f3 false true false false) := by
  refine law_lifted (C := Try.checked) 4 split_own started (by kernel_rfl) Try.func3 split_laid rfl (by kernel_rfl) Try.underlying4 (by kernel_rfl)
    (fun ds h => by match ds, h with | [_, _], _ => rfl)
    (ChangeSpec.witness6 (enc := enc) (C := Try.checked) false ⟨#[], #[.string ByteArray.empty, .slice none 0 0], []⟩ 8 (by kernel_rfl) (by kernel_rfl) (by kernel_rfl) (by kernel_rfl)) ?_
  intro W base args ds p hval0 hA0 hfz hz0
  have hz : ∀ (j : Nat) t d, Try.f3.params.toList[j]? = some t → ds[j]? = some d → ∀ n ∈ d.weights Try.prog t, n ≤ reachBytes := hz0
  have hval : ∀ (j : Nat) t v, Try.f3.params[j]? = some t → args[j]? = some v → Value.okWide Try.prog W .any base t v := hval0
  have hA : DataW.TrodAll enc Try.prog W 0 (fun _ => true) true Try.f3.params.toList args.toList ds p := hA0
  rw [Try.params3] at hA hval
  obtain ⟨v0, vs0, d0, ds0, p0, q0, hargs, rfl, rfl, h0, r0⟩ := trodAll_cons hA
  obtain ⟨v1, vs1, d1, ds1, p1, q1, rfl, rfl, rfl, h1, r1⟩ := trodAll_cons r0
  obtain ⟨rfl, rfl, rfl⟩ := trodAll_nil r1
  obtain rfl : args = #[v0, v1] := by cases args; simp_all
  obtain ⟨a0, rfl, _, _, _⟩ := open_string Try.underlying9 (hval 0 9 v0 rfl rfl) h0
  obtain ⟨l1, ao1, cap1, rfl, c1⟩ := Rd.arg_slice at_22 Try.underlying22 (hval 1 22 v1 rfl rfl) h1 (hz 1 22 d1 rfl rfl)
  exact law_split a0 ao1 cap1 l1 W c1

theorem split_holds : Rows.LinesSplitSaid :=
  OpenClaim.holds_of_wide 3 Try.f3 rfl rfl rfl rfl rfl rfl rfl ⟨rfl, rfl, rfl, rfl, rfl⟩ rfl rfl rfl rfl rfl (by kernel_rfl) Try.func3 (by kernel_rfl)
    (of_decide_eq_true (by kernel_rfl)) (by unfold Func.isWrapper; rw [if_neg (of_decide_eq_false (by kernel_rfl))]; exact ⟨rfl, rfl⟩)
    (fun os started H enc _ => split_lifted os started H enc)

end Go.Proofs.Ytigcjmpdjffpfaa
