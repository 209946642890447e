/- CheckSums holds: of every text the program's sum is the reference's, and '123456789' has the sum 0x29b1. No condition. -/
import Derived.Test.YtgdcnglcbaoidaaWalks
import Derived.Test.YtgdcnglcbaoidaaBase
namespace Go.Proofs.Ytgdcnglcbaoidaa
open Go.ChangeShapes Go.WideShapes Go.ChangeAt Go.RowKit Crc Lift
open Go.ChangeMaps (open_string shut_string)

theorem Try.own : ownKnob Try.prog.godebug = none := by kernel_rfl
theorem Try.laidOut : laidOutB Try.prog = true := by kernel_rfl

theorem of_lit : w16 (crc [0x31,0x32,0x33,0x34,0x35,0x36,0x37,0x38,0x39]) = 0x29b1 := by decide +kernel

set_option maxHeartbeats 400000 in
theorem law_sums (s : ByteArray) (w : World) : Calls Try.prog 3 #[.string s] w (TruePost w) := by
  by_cases hs : s.size ≤ 5000
  · have hm : s.size ≤ maxLen := by unfold maxLen; omega
    have hd : decide ((5000:Int) < (s.size : Int)) = false := by simp; omega
    have HM := Lib.hid hm
    clear hm
    go_enter Try.func3, Try.ntmps3
    go_wp2_with fail
    refine (of_any _ _ HM.out).mono ?_; rintro e w1 ⟨rfl, hb1⟩
    go_wp2_with fail
    refine (of_ref _ _ HM.out).mono ?_; rintro e w2 ⟨rfl, hb2⟩
    go_wp2_with fail
    refine (of_any _ _ (by decide)).mono ?_; rintro e w3 ⟨rfl, hb3⟩
    simp only [show w16 (crc (ByteArray.mk #[49, 50, 51, 52, 53, 54, 55, 56, 57]).data.toList) = 10673 from of_lit]
    go_wp2_with fail
    go_ret
    exact ⟨rfl, (hb1.trans (hb2.mono hb1.size)).trans (hb3.mono (Nat.le_trans hb1.size hb2.size))⟩
  · have hd : decide ((5000:Int) < (s.size : Int)) = true := by simp; omega
    go_enter Try.func3, Try.ntmps3
    go_wp2_with fail
    go_ret
    exact ⟨rfl, Below.refl _ _⟩

set_option maxRecDepth 100000 in
theorem sums_lifted (os : Os) (started : os.Started) (H : Type) (enc : TypeId × Value → H) :
    ReturnsInHanded {} Try.checked os 3 .any (Rows.checkSumsSpec.pre6 enc Try.prog Try.f3 Rows.checkSumsRow.domain false) (Rows.checkSumsSpec.post enc Try.prog Try.f3 false true false false) := by
  refine law_lifted (C := Try.checked) 4 Try.own started (by kernel_rfl) Try.func3 Try.laidOut rfl (by kernel_rfl) Try.underlying4 (by kernel_rfl)
    (fun ds h => by match ds, h with | [d], _ => rfl)
    (ChangeSpec.witness6 (enc := enc) (C := Try.checked) false ⟨#[], #[.string ByteArray.empty], []⟩ 8 (by kernel_rfl) (by kernel_rfl) (by kernel_rfl) (by kernel_rfl)) ?_
  intro W base args ds p hval0 hA0 _
  have hval : ∀ (j : Nat) t v, Try.f3.params[j]? = some t → args[j]? = some v → Value.okWide Try.prog W .any base t v := hval0
  have hA : DataW.TrodAll enc Try.prog W 0 (fun _ => true) true Try.f3.params.toList args.toList ds p := hA0
  rw [Try.params3] at hA hval
  obtain ⟨v0, d0, rfl, rfl, h0⟩ := trodAll_one hA
  obtain ⟨s, rfl, _, _, _⟩ := open_string Try.underlying9 (hval 0 9 v0 rfl rfl) h0
  exact law_sums s W

theorem sums_holds : Rows.CheckSumsSaid :=
  OpenClaim.holds_of_wide 3 Try.f3 rfl rfl rfl rfl rfl rfl rfl ⟨rfl, rfl, rfl, rfl, rfl⟩ rfl rfl rfl rfl rfl (by kernel_rfl) Try.func3 (by kernel_rfl)
    (of_decide_eq_true (by kernel_rfl)) (by unfold Func.isWrapper; rw [if_neg (of_decide_eq_false (by kernel_rfl))]; exact ⟨rfl, rfl⟩)
    (fun os started H enc _ => sums_lifted os started H enc)

end Go.Proofs.Ytgdcnglcbaoidaa
