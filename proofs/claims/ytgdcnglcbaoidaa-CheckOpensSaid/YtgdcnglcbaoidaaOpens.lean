/- CheckOpens holds: of every text its end is told as the reference tells it; what is sealed is opened. No condition. -/
import Derived.Test.YtgdcnglcbaoidaaWalks
import Derived.Test.YtgdcnglcbaoidaaBase
namespace Go.Proofs.Ytgdcnglcbaoidaa
open Go.ChangeShapes Go.WideShapes Go.ChangeAt Go.RowKit Crc Lift
open Go.ChangeMaps (open_string shut_string)

set_option maxHeartbeats 400000 in
theorem law_opens (s : ByteArray) (w : World) : Calls Try.prog 4 #[.string s] w (TruePost w) := by
  by_cases hs : s.size ≤ 5000
  · have hd : decide ((5000:Int) < (s.size : Int)) = false := by simp; omega
    have hz : (s ++ ⟨(tail (crc s.data.toList)).toArray⟩ : ByteArray).size = s.size + 2 := by rw [ByteArray.size_append]; rfl
    have HZ := Lib.hid hz
    have HO := Lib.hid (open_seal s)
    clear hz
    go_enter Try.func4, Try.ntmps4
    go_wp2_with fail
    refine (open_any _ _ (by omega)).mono ?_; rintro e w1 ⟨rfl, hb1⟩
    go_wp2_with fail
    refine (open_ref _ _ (by omega)).mono ?_; rintro e w2 ⟨rfl, hb2⟩
    go_wp2_with fail
    refine (seal_any _ _ (by omega)).mono ?_; rintro e w3 ⟨rfl, hb3⟩
    go_wp2_with fail
    refine (open_any _ _ (by rw [HZ.out]; omega)).mono ?_; rintro e w4 ⟨rfl, hb4⟩
    rw [HO.out.1, HO.out.2]
    go_wp2_with fail
    refine (seal_any _ _ (by omega)).mono ?_; rintro e w5 ⟨rfl, hb5⟩
    go_wp2_with fail
    refine (seal_ref _ _ (by omega)).mono ?_; rintro e w6 ⟨rfl, hb6⟩
    go_wp2_with fail
    go_ret
    exact ⟨rfl, chain (chain (chain (chain (chain hb1 hb2) hb3) hb4) hb5) hb6⟩
  · have hd : decide ((5000:Int) < (s.size : Int)) = true := by simp; omega
    go_enter Try.func4, Try.ntmps4
    go_wp2_with fail
    go_ret
    exact ⟨rfl, Below.refl _ _⟩

theorem Try.own : ownKnob Try.prog.godebug = none := by kernel_rfl
theorem Try.laidOut : laidOutB Try.prog = true := by kernel_rfl

set_option maxRecDepth 100000 in
theorem opens_lifted (os : Os) (started : os.Started) (H : Type) (enc : TypeId × Value → H) :
    ReturnsInHanded {} Try.checked os 4 .any (Rows.checkOpensSpec.pre6 enc Try.prog Try.f4 Rows.checkOpensRow.domain false) (Rows.checkOpensSpec.post enc Try.prog Try.f4 false true false false) := by
  refine law_lifted (C := Try.checked) 4 Try.own started (by kernel_rfl) Try.func4 Try.laidOut rfl (by kernel_rfl) Try.underlying4 (by kernel_rfl)
    (fun ds h => by match ds, h with | [_], _ => rfl)
    (ChangeSpec.witness6 (enc := enc) (C := Try.checked) false ⟨#[], #[.string ByteArray.empty], []⟩ 8 (by kernel_rfl) (by kernel_rfl) (by kernel_rfl) (by kernel_rfl)) ?_
  intro W base args ds p hval0 hA0 hfz
  have hval : ∀ (j : Nat) t v, Try.f4.params[j]? = some t → args[j]? = some v → Value.okWide Try.prog W .any base t v := hval0
  have hA : DataW.TrodAll enc Try.prog W 0 (fun _ => true) true Try.f4.params.toList args.toList ds p := hA0
  rw [Try.params4] at hA hval
  obtain ⟨v0, vs0, d0, ds0, p0, q0, hargs, rfl, rfl, h0, r0⟩ := trodAll_cons hA
  obtain ⟨rfl, rfl, rfl⟩ := trodAll_nil r0
  obtain rfl : args = #[v0] := by cases args; simp_all
  obtain ⟨a0, rfl, _, _, _⟩ := open_string Try.underlying9 (hval 0 9 v0 rfl rfl) h0
  exact law_opens a0 W

theorem opens_holds : Rows.CheckOpensSaid :=
  OpenClaim.holds_of_wide 4 Try.f4 rfl rfl rfl rfl rfl rfl rfl ⟨rfl, rfl, rfl, rfl, rfl⟩ rfl rfl rfl rfl rfl (by kernel_rfl) Try.func4 (by kernel_rfl)
    (of_decide_eq_true (by kernel_rfl)) (by unfold Func.isWrapper; rw [if_neg (of_decide_eq_false (by kernel_rfl))]; exact ⟨rfl, rfl⟩)
    (fun os started H enc _ => opens_lifted os started H enc)

end Go.Proofs.Ytgdcnglcbaoidaa
