/- CheckBursts holds: one to sixteen bits that stand together, turned, are seen. No condition. -/
import Derived.Test.YtgdcnglcbaoidaaWalks
import Derived.Test.YtgdcnglcbaoidaaBase
import Derived.Test.YtgdcnglcbaoidaaBurst
namespace Go.Proofs.Ytgdcnglcbaoidaa
open Go.ChangeShapes Go.WideShapes Go.ChangeAt Go.RowKit Crc Lift
open Go.ChangeMaps (open_string shut_string)

set_option maxHeartbeats 400000 in
theorem law_bursts (s : ByteArray) (a : Int) (b : Int) (w : World) : Calls Try.prog 5 #[.string s, .int .i64 a, .int .u16 b] w (TruePost w) := by
  by_cases hs : s.size ≤ 3000
  · have hd : decide ((3000:Int) < (s.size : Int)) = false := by simp; omega
    have hz : (s ++ ⟨(tail (crc s.data.toList)).toArray⟩ : ByteArray).size = s.size + 2 := by rw [ByteArray.size_append]; rfl
    have HZ := Lib.hid hz
    clear hz
    go_enter Try.func5, Try.ntmps5
    go_wp2_with fail
    refine (seal_any _ _ (by omega)).mono ?_; rintro e w1 ⟨rfl, hb1⟩
    have HO := Lib.hid (open_seal s)
    generalize (s ++ ⟨(tail (crc s.data.toList)).toArray⟩ : ByteArray) = t at *
    have hcv := Lib.run_convert_string_bytes (P := Try.prog) w1 9 28 5 t (u := .string) Try.underlying9 Try.underlying28 Try.underlying5
    have hbw := Lib.bytesWorld_below w1 5 t
    have hB := bytes_new w1 5 t
    generalize Lib.bytesWorld w1 5 t = W at *
    generalize grownCap w1 t.size 0 5 = cap at *
    obtain ⟨i, hi, e1, e2, e3⟩ := mod_index a (8 * t.size) (by rw [HZ.out]; omega) (by rw [HZ.out]; omega)
    have hlt : 2 ≤ (t.size : Int) := by rw [HZ.out]; omega
    have hle : (t.size : Int) ≤ 3002 := by rw [HZ.out]; omega
    push_cast at e1 e2
    go_wp2_with fail
    go_loopw [10] (fun v10 wr => ∃ k : Nat, k ≤ 16 ∧ i + k ≤ 8 * t.size ∧ v10 = .int .i64 k ∧ ∃ l, Bytes wr w1.heap.size l ∧ l.length = t.size ∧ Turned t.data.toList l i k ∧ Below w1.heap.size w1 wr) (fun v10 _ => 16 - (intOf v10).toNat)
    case atStart => exact ⟨0, by omega, by omega, rfl, t.data.toList, hB, by simp, turned_zero _ _, hbw⟩
    case round =>
      obtain ⟨k, hk, hk2, rfl, l, hBl, hll, hT, hbr⟩ := hrel
      by_cases hc : k < 16 ∧ i + k < 8 * t.size
      · obtain ⟨h1, h2⟩ := hc
        by_cases hk0 : k = 0
        · subst hk0
          have hq : i / 8 < l.length := by omega
          have hcell := hBl.cell _ hq
          have hfree := hBl.free _ hq
          have hf := turned_flip hT (by simpa using hq)
          have hs := hBl.set (i / 8) _ _ (mask_int (7 - i % 8) (l.getD (i / 8) 0))
          simp only [Nat.add_zero] at hf
          obtain ⟨c, hc⟩ : ∃ c, c = l.getD (i / 8) 0 := ⟨_, rfl⟩
          rw [← hc] at hcell hf hs
          have HF := Lib.hid hf
          have HS := Lib.hid hs
          clear hf hs hT hc
          go_wp2_with fail
          go_round
          case rel => exact ⟨1, by omega, by omega, rfl, _, HS.out, by simp [hll], HF.out, hbr.setCell (Nat.le_refl _) _⟩
          case measure => simp [intOf]
        · have hk1 : ((k:Int) == 0) = false := by simpa using hk0
          have hq : (i + k) / 8 < l.length := by omega
          have hcell := hBl.cell _ hq
          have hfree := hBl.free _ hq
          have HK := Lib.hid hk0
          clear hk0
          have HF := Lib.hid (turned_flip hT hq)
          have HS := Lib.hid (hBl.set ((i + k) / 8) _ _ (mask_int (7 - (i + k) % 8) (l.getD ((i + k) / 8) 0)))
          have HT := Lib.hid hT
          clear hT
          generalize l.getD ((i + k) / 8) 0 = c at *
          go_wp2_with fail
          · go_round
            case rel => exact ⟨k + 1, by omega, by omega, by go_num, _, HS.out, by simp [hll], HF.out, hbr.setCell (Nat.le_refl _) _⟩
            case measure => simp [intOf]; omega
          · go_round
            case rel => exact ⟨k + 1, by omega, by omega, by go_num, _, hBl, hll, turned_skip HT.out HK.out, hbr⟩
            case measure => simp [intOf]; omega
      · have h1 : 1 ≤ k := by omega
        have hback := hBl.string (P := Try.prog) 28 9 5 cap t.size hll.symm Try.underlying28 Try.underlying5 Try.underlying9
        have HN := Lib.hid (turned_seen hT HO.out.1 hi h1 hk hll)
        have HL := Lib.hid (show (⟨l.toArray⟩ : ByteArray).size = t.size by show l.toArray.size = _; simpa using hll)
        clear hT hll
        by_cases hk16 : k < 16
        all_goals
          go_wp2_with fail
          refine (open_any _ _ (by rw [HL.out, HZ.out]; omega)).mono ?_; rintro e w2 ⟨rfl, hb2⟩
          rw [openS_no HN.out, HN.out]
          go_wp2_with fail
          go_ret
          exact ⟨rfl, chain hb1 (chain hbr hb2)⟩
  · have hd : decide ((3000:Int) < (s.size : Int)) = true := by simp; omega
    go_enter Try.func5, Try.ntmps5
    go_wp2_with fail
    go_ret
    exact ⟨rfl, Below.refl _ _⟩

theorem Try.own : ownKnob Try.prog.godebug = none := by kernel_rfl
theorem Try.laidOut : laidOutB Try.prog = true := by kernel_rfl

set_option maxRecDepth 100000 in
theorem bursts_lifted (os : Os) (started : os.Started) (H : Type) (enc : TypeId × Value → H) :
    ReturnsInHanded {} Try.checked os 5 .any (Rows.checkBurstsSpec.pre6 enc Try.prog Try.f5 Rows.checkBurstsRow.domain false) (Rows.checkBurstsSpec.post enc Try.prog Try.f5 false true false false) := by
  refine law_lifted (C := Try.checked) 4 Try.own started (by kernel_rfl) Try.func5 Try.laidOut rfl (by kernel_rfl) Try.underlying4 (by kernel_rfl)
    (fun ds h => by match ds, h with | [_, _, _], _ => rfl)
    (ChangeSpec.witness6 (enc := enc) (C := Try.checked) false ⟨#[], #[.string ByteArray.empty, .int .i64 0, .int .u16 0], []⟩ 8 (by kernel_rfl) (by kernel_rfl) (by kernel_rfl) (by kernel_rfl)) ?_
  intro W base args ds p hval0 hA0 hfz
  have hval : ∀ (j : Nat) t v, Try.f5.params[j]? = some t → args[j]? = some v → Value.okWide Try.prog W .any base t v := hval0
  have hA : DataW.TrodAll enc Try.prog W 0 (fun _ => true) true Try.f5.params.toList args.toList ds p := hA0
  rw [Try.params5] at hA hval
  obtain ⟨v0, vs0, d0, ds0, p0, q0, hargs, rfl, rfl, h0, r0⟩ := trodAll_cons hA
  obtain ⟨v1, vs1, d1, ds1, p1, q1, rfl, rfl, rfl, h1, r1⟩ := trodAll_cons r0
  obtain ⟨v2, vs2, d2, ds2, p2, q2, rfl, rfl, rfl, h2, r2⟩ := trodAll_cons r1
  obtain ⟨rfl, rfl, rfl⟩ := trodAll_nil r2
  obtain rfl : args = #[v0, v1, v2] := by cases args; simp_all
  obtain ⟨a0, rfl, _, _, _⟩ := open_string Try.underlying9 (hval 0 9 v0 rfl rfl) h0
  obtain ⟨a1, rfl, _, _, _⟩ := open_int Try.underlying3 (hval 1 3 v1 rfl rfl) h1
  obtain ⟨a2, rfl, _, _, _⟩ := open_int Try.underlying22 (hval 2 22 v2 rfl rfl) h2
  exact law_bursts a0 a1 a2 W

theorem bursts_holds : Rows.CheckBurstsSaid :=
  OpenClaim.holds_of_wide 5 Try.f5 rfl rfl rfl rfl rfl rfl rfl ⟨rfl, rfl, rfl, rfl, rfl⟩ rfl rfl rfl rfl rfl (by kernel_rfl) Try.func5 (by kernel_rfl)
    (of_decide_eq_true (by kernel_rfl)) (by unfold Func.isWrapper; rw [if_neg (of_decide_eq_false (by kernel_rfl))]; exact ⟨rfl, rfl⟩)
    (fun os started H enc _ => bursts_lifted os started H enc)

end Go.Proofs.Ytgdcnglcbaoidaa
