/- CheckOne holds: a byte of a sealed text that is turned into another one is seen. No condition. -/
import Derived.Test.YtgdcnglcbaoidaaWalks
import Derived.Test.YtgdcnglcbaoidaaBase
import Derived.Test.YtgdcnglcbaoidaaBurst
namespace Go.Proofs.Ytgdcnglcbaoidaa
open Go.ChangeShapes Go.WideShapes Go.ChangeAt Go.RowKit Crc Lift
open Go.ChangeMaps (open_string shut_string)

set_option maxHeartbeats 400000 in
theorem law_one (s : ByteArray) (a : Int) (y : UInt8) (w : World) : Calls Try.prog 6 #[.string s, .int .i64 a, .int .u8 y.toNat] w (TruePost w) := by
  by_cases hs : s.size ≤ 3000
  · have hd : decide ((3000:Int) < (s.size : Int)) = false := by simp; omega
    have hz : (s ++ ⟨(tail (crc s.data.toList)).toArray⟩ : ByteArray).size = s.size + 2 := by rw [ByteArray.size_append]; rfl
    have HZ := Lib.hid hz
    clear hz
    by_cases hb0 : y = 0
    · subst hb0
      go_enter Try.func6, Try.ntmps6
      go_wp2_with fail
      go_ret
      exact ⟨rfl, Below.refl _ _⟩
    · have hb1 : ((y.toNat : Int) == 0) = false := by
        rw [beq_eq_false_iff_ne]; intro e; exact hb0 (UInt8.toNat_inj.1 (by simpa using e))
      have HB := Lib.hid hb0
      clear hb0
      go_enter Try.func6, Try.ntmps6
      go_wp2_with fail
      refine (seal_any _ _ (by omega)).mono ?_; rintro e w1 ⟨rfl, hb1⟩
      have HO := Lib.hid (open_seal s)
      generalize (s ++ ⟨(tail (crc s.data.toList)).toArray⟩ : ByteArray) = t at *
      have hcv := Lib.run_convert_string_bytes (P := Try.prog) w1 9 28 5 t (u := .string) Try.underlying9 Try.underlying28 Try.underlying5
      have hbw := Lib.bytesWorld_below w1 5 t
      have hB := bytes_new w1 5 t
      generalize Lib.bytesWorld w1 5 t = W at *
      generalize grownCap w1 t.size 0 5 = cap at *
      obtain ⟨i, hi, e1, e2, e3⟩ := mod_index a t.size (by rw [HZ.out]; omega) (by rw [HZ.out]; omega)
      have hlt : 2 ≤ (t.size : Int) := by rw [HZ.out]; omega
      have hc := hB.cell i (by simpa using hi)
      have hf := hB.free i (by simpa using hi)
      have hno := Lib.hid (one_seen t HO.out.1 i hi y HB.out)
      have hset := fun c => hB.set i (c ^^^ y) _ (xor_u8 c y)
      generalize t.data.toList.getD i 0 = c at *
      have hback := (hset c).string (P := Try.prog) 28 9 5 cap t.size (by simp) Try.underlying28 Try.underlying5 Try.underlying9
      clear hset
      have HL := Lib.hid (show (⟨(t.data.toList.set i (c ^^^ y)).toArray⟩ : ByteArray).size = t.size by show (List.set _ _ _).toArray.size = _; simp)
      go_wp2_with fail
      refine (open_any _ _ (by rw [HL.out, HZ.out]; omega)).mono ?_; rintro e w2 ⟨rfl, hb2⟩
      rw [hno.out]
      go_wp2_with fail
      go_ret
      exact ⟨rfl, hb1.trans (((hbw.mono hb1.size).setCell hb1.size _).trans (hb2.mono (by simp; exact Nat.le_trans hb1.size hbw.size)))⟩
  · have hd : decide ((3000:Int) < (s.size : Int)) = true := by simp; omega
    go_enter Try.func6, Try.ntmps6
    go_wp2_with fail
    go_ret
    exact ⟨rfl, Below.refl _ _⟩

theorem Try.own : ownKnob Try.prog.godebug = none := by kernel_rfl
theorem Try.laidOut : laidOutB Try.prog = true := by kernel_rfl

set_option maxRecDepth 100000 in
theorem one_lifted (os : Os) (started : os.Started) (H : Type) (enc : TypeId × Value → H) :
    ReturnsInHanded {} Try.checked os 6 .any (Rows.checkOneSpec.pre6 enc Try.prog Try.f6 Rows.checkOneRow.domain false) (Rows.checkOneSpec.post enc Try.prog Try.f6 false true false false) := by
  refine law_lifted (C := Try.checked) 4 Try.own started (by kernel_rfl) Try.func6 Try.laidOut rfl (by kernel_rfl) Try.underlying4 (by kernel_rfl)
    (fun ds h => by match ds, h with | [_, _, _], _ => rfl)
    (ChangeSpec.witness6 (enc := enc) (C := Try.checked) false ⟨#[], #[.string ByteArray.empty, .int .i64 0, .int .u8 0], []⟩ 8 (by kernel_rfl) (by kernel_rfl) (by kernel_rfl) (by kernel_rfl)) ?_
  intro W base args ds p hval0 hA0 _
  have hval : ∀ (j : Nat) t v, Try.f6.params[j]? = some t → args[j]? = some v → Value.okWide Try.prog W .any base t v := hval0
  have hA : DataW.TrodAll enc Try.prog W 0 (fun _ => true) true Try.f6.params.toList args.toList ds p := hA0
  rw [Try.params6] at hA hval
  obtain ⟨v0, v1, v2, d0, d1, d2, p0, p1, p2, rfl, rfl, rfl, h0, h1, h2⟩ := trodAll_three hA
  obtain ⟨s, rfl, _, _, _⟩ := open_string Try.underlying9 (hval 0 9 v0 rfl rfl) h0
  obtain ⟨a, rfl, _, _, _⟩ := open_int Try.underlying3 (hval 1 3 v1 rfl rfl) h1
  obtain ⟨b, rfl, _, _, wb⟩ := open_int Try.underlying5 (hval 2 5 v2 rfl rfl) h2
  obtain ⟨y, rfl⟩ := int_u8 wb
  exact law_one s a y W

theorem one_holds : Rows.CheckOneSaid :=
  OpenClaim.holds_of_wide 6 Try.f6 rfl rfl rfl rfl rfl rfl rfl ⟨rfl, rfl, rfl, rfl, rfl⟩ rfl rfl rfl rfl rfl (by kernel_rfl) Try.func6 (by kernel_rfl)
    (of_decide_eq_true (by kernel_rfl)) (by unfold Func.isWrapper; rw [if_neg (of_decide_eq_false (by kernel_rfl))]; exact ⟨rfl, rfl⟩)
    (fun os started H enc _ => one_lifted os started H enc)
end Go.Proofs.Ytgdcnglcbaoidaa
