/- PropReads holds: any line is a property, or refused at its place, as the document has it. No condition. -/
import Derived.Test.YtioeobkneikgfaaPrParseG
import Derived.Test.YtioeobkneikgfaaPrParseP
import Derived.Test.YtioeobkneikgfaaPrParseRG
import Derived.Test.YtioeobkneikgfaaPrParseRP
import Derived.Deep.RegionHeld3
namespace Go.Proofs.Ytioeobkneikgfaa
open Go.ChangeShapes Go.WideShapes Go.ChangeAt Go.RowKit Lift
open Go.ChangeMaps (open_string shut_string)
set_option linter.unusedSimpArgs false
set_option linter.unusedVariables false

set_option maxHeartbeats 4000000 in
set_option maxRecDepth 100000 in
theorem parse_none (s : ByteArray) (w : World) (hs : s.size ≤ 100000) (hq : ¬ findL s 0 s.size 58 < s.size) : Calls Try.prog 20 #[.string s] w (ReadPost (readP s) w) := by
  have HCut0 := Lib.hid (fun w => cut_any s 58 w (by omega))
  have e0 := cut_ext s 0 s.size 58 (by omega) (by omega)
  rw [extract_all, if_neg hq] at e0
  rw [e0] at HCut0
  have HR := Lib.hid (show readP s = fail4 s.size 1 by unfold readP; rw [if_neg hq])
  clear e0 hq
  unfold CutPost at *
  go_enter Try.func20, Try.ntmps20
  go_wp2_with fail
  refine (HCut0.out _).mono ?_
  rintro e w1 ⟨rfl, hb1⟩
  have hA := FA.mk0 (by rw [World.size_alloc] at hb1; exact hb1)
  clear hb1
  have hAX := hA
  obtain ⟨⟨z0, z1, z2, z3, z4⟩, zf, zl, _, _⟩ := hA
  go_wp2_with fail
  refine bodyPost_ret (v := .tuple #[propV ⟨#[]⟩ ⟨#[]⟩ none 0 0 ⟨#[]⟩ none 0 0, .int .i64 s.size, .int .i64 1]) (by simp [results, Try.results20, go_sem, propV, z0, z1, z2, z3, z4]) rfl ?_
  rw [HR.out]
  exact hAX.fail (by ((repeat (with_reducible refine Kept.set ?_ (by first | omega | (constructor <;> (first | omega | (simp; omega) | (simp; done))) | (simp; omega) | (simp; done)))); with_reducible exact Kept.refl _ _)) _ _
set_option maxHeartbeats 4000000 in
set_option maxRecDepth 100000 in
theorem parser_none (s : ByteArray) (w : World) (hs : s.size ≤ 100000) (hq : ¬ findL s 0 s.size 58 < s.size) : Calls Try.prog 21 #[.string s] w (ReadPost (readP s) w) := by
  have hle := findL_le s 0 s.size 58 (by omega) (by omega)
  have HF0 := fun w => find_ref s 0 s.size 58 w (by omega) (by omega) hs
  rw [show findL s 0 s.size 58 = s.size by omega] at HF0
  have HE1 := Lib.hid (show ∀ w, Calls Try.prog 45 #[.string s, .int .i64 0, .int .i64 s.size, .int .u8 58] w (IntPost .i64 s.size w) from HF0)
  have HR := Lib.hid (show readP s = fail4 s.size 1 by unfold readP; rw [if_neg hq])
  clear hq HF0 hle
  go_enter Try.func21, Try.ntmps21
  go_wp2_with fail
  have hA : FA w.heap.size w _ := FA.mk0 (Below.refl _ _)
  refine (HE1.out _).mono ?_
  rintro e w1 ⟨rfl, rfl⟩
  have hAX := hA
  obtain ⟨⟨z0, z1, z2, z3, z4⟩, zf, zl, _, _⟩ := hA
  go_wp2_with fail
  refine bodyPost_ret (v := .tuple #[propV ⟨#[]⟩ ⟨#[]⟩ none 0 0 ⟨#[]⟩ none 0 0, .int .i64 s.size, .int .i64 1]) (by simp [results, Try.results21, go_sem, propV, z0, z1, z2, z3, z4]) rfl ?_
  rw [HR.out]
  exact FA.fail (FA.mk0 (Below.refl _ _)) (by first | ((repeat (with_reducible refine Kept.set ?_ (by first | omega | (constructor <;> (first | omega | (simp; omega) | (simp; done))) | (simp; omega) | (simp; done)))); with_reducible exact Kept.refl _ _) | (exact Kept.refl _ _)) _ _
theorem parse_any (s : ByteArray) (w : World) (hs : s.size ≤ 100000) : Calls Try.prog 20 #[.string s] w (ReadPost (readP s) w) := by
  by_cases hq : findL s 0 s.size 58 < s.size
  · by_cases hD : findL s 0 (findL s 0 (findL s 0 s.size 58) 59) 46 < findL s 0 (findL s 0 s.size 58) 59
    · exact parse_group s w hs hq hD
    · exact parse_plain s w hs hq hD
  · exact parse_none s w hs hq
theorem parse_ref (s : ByteArray) (w : World) (hs : s.size ≤ 100000) : Calls Try.prog 21 #[.string s] w (ReadPost (readP s) w) := by
  by_cases hq : findL s 0 s.size 58 < s.size
  · by_cases hD : findL s 0 (findL s 0 (findL s 0 s.size 58) 59) 46 < findL s 0 (findL s 0 s.size 58) 59
    · exact parser_group s w hs hq hD
    · exact parser_plain s w hs hq hD
  · exact parser_none s w hs hq

theorem parsP_len (s : ByteArray) (e : Nat) (g n : ByteArray) : ∀ (f a : Nat) (ps : List Par), ps.length ≤ 6 → (parsP s e g n f a ps).1.2.2.1.length ≤ 6
  | 0, a, ps, h => by simp [parsP, fail4]
  | f + 1, a, ps, h => by
    unfold parsP
    split
    · simp [fail4]
    rename_i h1
    split
    · simp [fail4]
    split
    · exact parsP_len s e g n f _ _ (by rw [List.length_append, List.length_singleton]; omega)
    · unfold tailP
      split
      · simp [fail4]
      split
      · simp [fail4]
      · show (ps ++ _).length ≤ 6
        rw [List.length_append, List.length_singleton]; omega
theorem moreP_len (s : ByteArray) (e : Nat) (g n : ByteArray) (ps : List Par) (a : Nat) (m : Bool) (h : ps.length ≤ 6) : (moreP s e g n ps a m).1.2.2.1.length ≤ 6 := by
  unfold moreP
  split
  · exact parsP_len _ _ _ _ _ _ _ h
  · unfold tailP
    split
    · simp [fail4]
    split
    · simp [fail4]
    · exact h
theorem readP_len (s : ByteArray) : (readP s).1.2.2.1.length ≤ 6 := by
  unfold readP nameP
  repeat' split
  all_goals first | exact moreP_len _ _ _ _ _ _ _ (by simp) | simp [fail4]

set_option maxHeartbeats 8000000 in
set_option maxRecDepth 100000 in
theorem law_reads (s : ByteArray) (w : World) : Calls Try.prog 5 #[.string s] w (TruePost w) := by
  by_cases hs : s.size ≤ 5000
  · have HP1 := Lib.hid (fun w => parse_any s w (by omega))
    have HP2 := Lib.hid (fun w => parse_ref s w (by omega))
    have hlen := readP_len s
    generalize readP s = x at HP1 HP2 hlen
    obtain ⟨⟨g, n, ps, v⟩, at', er⟩ := x
    have hs2 : ¬ (5000 : Int) < (s.size : Int) := by omega
    simp only at hlen
    go_enter Try.func5, Try.ntmps5
    go_wp2_with fail
    refine (HP1.out _).mono ?_
    rintro e w1 ⟨ao, cap, rfl, hO1, hb1⟩
    unfold propV
    simp only at hO1
    go_wp2_with fail
    have hA1 : Below w1.heap.size w1 (w1.alloc (propC g n ao ps.length cap v none 0 0)) := (Below.refl _ _).alloc (Nat.le_refl _) _
    refine (HP2.out _).mono ?_
    rintro e w2 ⟨ao2, cap2, rfl, hO2, hb2⟩
    have hbx : Below (w1.heap.size + 1) (w1.alloc (propC g n ao ps.length cap v none 0 0)) w2 := by rw [World.size_alloc] at hb2; exact hb2
    obtain ⟨x0, x1, x2, x3, x4⟩ := boxCells hbx
    have hz2 := hb2.size
    have hO12 := hO1.below (chain hA1 hb2)
    unfold propV
    simp only at hO2
    have hlt : w1.heap.size < w2.heap.size := by rw [World.size_alloc] at hz2; omega
    have hA2 : Below w2.heap.size w2 (w2.alloc (propC g n ao2 ps.length cap2 v none 0 0)) := (Below.refl _ _).alloc (Nat.le_refl _) _
    have HS := Lib.hid (same_prop g n v none none 0 0 0 ao ao2 cap cap2 ps (w2.alloc (propC g n ao2 ps.length cap2 v none 0 0)) (hO12.below hA2).here (hO2.below hA2).here (by omega))
    have hB2 := chain (chain hb1 (chain hA1 hb2)) hA2
    unfold propV at HS
    clear hO1 hO2 hO12 HP1 HP2 hA1 hb2 hbx hb1
    go_wp2_with fail
    refine HS.out.mono ?_
    rintro e w3 ⟨rfl, hb3⟩
    go_wp2_with fail
    go_ret
    exact ⟨rfl, chain hB2 hb3⟩
  · have hs2 : (5000 : Int) < (s.size : Int) := by omega
    go_enter Try.func5, Try.ntmps5
    go_wp2_with fail
    go_ret
    exact ⟨rfl, Below.refl _ _⟩
theorem reads_own : ownKnob Try.prog.godebug = none := by kernel_rfl
theorem reads_laid : laidOutB Try.prog = true := by kernel_rfl

set_option maxRecDepth 100000 in
theorem reads_lifted (os : Os) (started : os.Started) (H : Type) (enc : TypeId × Value → H) :
    ReturnsInHanded {} Try.checked os 5 .any (Rows.propReadsSpec.pre6 enc Try.prog Try.f5 Rows.propReadsRow.domain false) (Rows.propReadsSpec.post enc Try.prog Try.f5 false true false false) := by
  refine law_lifted (C := Try.checked) 4 reads_own started (by kernel_rfl) Try.func5 reads_laid rfl (by kernel_rfl) Try.underlying4 (by kernel_rfl)
    (fun ds h => by match ds, h with | [_], _ => rfl)
    (ChangeSpec.witness6 (enc := enc) (C := Try.checked) false ⟨#[], #[.string ByteArray.empty], []⟩ 8 (by kernel_rfl) (by kernel_rfl) (by kernel_rfl) (by kernel_rfl)) ?_
  intro W base args ds p hval0 hA0 hfz hz0
  have hz : ∀ (j : Nat) t d, Try.f5.params.toList[j]? = some t → ds[j]? = some d → ∀ n ∈ d.weights Try.prog t, n ≤ reachBytes := hz0
  have hval : ∀ (j : Nat) t v, Try.f5.params[j]? = some t → args[j]? = some v → Value.okWide Try.prog W .any base t v := hval0
  have hA : DataW.TrodAll enc Try.prog W 0 (fun _ => true) true Try.f5.params.toList args.toList ds p := hA0
  rw [Try.params5] at hA hval
  obtain ⟨v0, vs0, d0, ds0, p0, q0, hargs, rfl, rfl, h0, r0⟩ := trodAll_cons hA
  obtain ⟨rfl, rfl, rfl⟩ := trodAll_nil r0
  obtain rfl : args = #[v0] := by cases args; simp_all
  obtain ⟨a0, rfl, _, _, _⟩ := open_string Try.underlying9 (hval 0 9 v0 rfl rfl) h0
  exact law_reads a0 W 

theorem reads_holds : Rows.PropReadsSaid :=
  OpenClaim.holds_of_wide 5 Try.f5 rfl rfl rfl rfl rfl rfl rfl ⟨rfl, rfl, rfl, rfl, rfl⟩ rfl rfl rfl rfl rfl (by kernel_rfl) Try.func5 (by kernel_rfl)
    (of_decide_eq_true (by kernel_rfl)) (by unfold Func.isWrapper; rw [if_neg (of_decide_eq_false (by kernel_rfl))]; exact ⟨rfl, rfl⟩)
    (fun os started H enc _ => reads_lifted os started H enc)

end Go.Proofs.Ytioeobkneikgfaa
