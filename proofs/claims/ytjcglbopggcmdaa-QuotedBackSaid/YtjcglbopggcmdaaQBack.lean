/- QuotedBack holds: what is written is read again, whole or in lines; no line is too long; all bytes are such as anybody prints. No condition. -/
import Derived.Test.YtjcglbopggcmdaaQBackLaw
import Derived.Test.YtjcglbopggcmdaaQuoRef
namespace Go.Proofs.Ytjcglbopggcmdaa
open Go.ChangeShapes Go.WideShapes Go.ChangeAt Go.RowKit Lift
open Go.ChangeMaps (open_string shut_string)
set_option linter.unusedSimpArgs false
set_option linter.unusedVariables false

def EncPost (s : ByteArray) (w : World) (e : Ending) (w' : World) : Prop := e = .returned (.string s) ∧ Below w.heap.size w w'
def BPost (b : Bool) (w : World) (e : Ending) (w' : World) : Prop := e = .returned (.bool b) ∧ Below w.heap.size w w'
def PairPost (x : ByteArray) (e : Int) (w : World) (r : Ending) (w' : World) : Prop := r = .returned (.tuple #[.string x, .int .i64 e]) ∧ Below w.heap.size w w'
theorem ofList (s : ByteArray) : (⟨s.data.toList.toArray⟩ : ByteArray) = s := rfl

set_option maxHeartbeats 1000000 in
set_option maxRecDepth 100000 in
theorem plain_call (s : ByteArray) (w : World) (b : Bool) (hs : s.size ≤ 1000000) (hb : (encL s.data.toList == s.data.toList) = b) : Calls Try.prog 9 #[.string s] w (BPost b w) := by
  have h5 : (encL s.data.toList == s.toList) = b := by rw [byte_list]; exact hb
  have HB := Lib.hid h5
  have henc := fun w => encode_any s w hs
  have HE := Lib.hid henc
  clear hb h5 henc
  go_enter Try.func9, Try.ntmps9
  go_wp2_with fail
  refine (HE.out _).mono ?_
  rintro e w1 ⟨rfl, hb1⟩
  go_wp2_with fail
  go_ret
  exact ⟨ret_bool (by simpa using HB.out), hb1⟩

theorem soft6 : softR [97, 97, 97, 97, 97, 97] 4 = ([97, 97, 97, 61, 13, 10, 97, 97, 97], 0) := by
  have h : decL [] ([97, 97, 97, 97, 97, 97] : List UInt8) = ([97, 97, 97, 97, 97, 97], 0) := dec_encL [97, 97, 97, 97, 97, 97]
  unfold softR
  rw [if_neg (by decide), h, if_neg (by decide)]
  show (softL 4 _, (0:Int)) = _
  rw [softL_long (by decide) (by decide), softL_short (by decide)]
  rfl
theorem dec6 : decL [] ([97, 97, 97, 61, 13, 10, 97, 97, 97] : List UInt8) = ([97, 97, 97, 97, 97, 97], 0) := by
  have := soft_dec 4 (by decide) 6 [97, 97, 97, 97, 97, 97] _ [] (by decide) (enc_encL [97, 97, 97, 97, 97, 97])
  rw [softL_long (by decide) (by decide), softL_short (by decide)] at this
  exact this

set_option maxHeartbeats 1000000 in
set_option maxRecDepth 100000 in
theorem works_true (w : World) : Calls Try.prog 14 #[] w (TruePost w) := by
  have h1 := fun w => soft_any ⟨#[97, 97, 97, 97, 97, 97]⟩ 4 w (by decide)
  have h2 := fun w => decode_any ⟨#[97, 97, 97, 61, 13, 10, 97, 97, 97]⟩ w (by decide)
  have h3 := fun w => encode_any ⟨#[97, 61, 98, 32]⟩ w (by decide)
  have h4 := fun w => plain_call ⟨#[97, 98]⟩ w true (by decide) (by decide)
  have h5 := fun w => plain_call ⟨#[61]⟩ w false (by decide) (by decide)
  rw [show (⟨#[97, 97, 97, 97, 97, 97]⟩ : ByteArray).data.toList = [97, 97, 97, 97, 97, 97] from rfl, soft6] at h1
  rw [show (⟨#[97, 97, 97, 61, 13, 10, 97, 97, 97]⟩ : ByteArray).data.toList = [97, 97, 97, 61, 13, 10, 97, 97, 97] from rfl, dec6] at h2
  rw [show encL (⟨#[97, 61, 98, 32]⟩ : ByteArray).data.toList = [97, 61, 51, 68, 98, 61, 50, 48] by decide] at h3
  have H1 := Lib.hid h1; have H2 := Lib.hid h2; have H3 := Lib.hid h3; have H4 := Lib.hid h4; have H5 := Lib.hid h5
  clear h1 h2 h3 h4 h5
  go_enter Try.func14, Try.ntmps14
  go_wp2_with fail
  refine (H1.out _).mono ?_
  rintro e w1 ⟨rfl, hb1⟩
  go_wp2_with fail
  refine (H2.out _).mono ?_
  rintro e w2 ⟨rfl, hb2⟩
  go_wp2_with fail
  refine (H3.out _).mono ?_
  rintro e w3 ⟨rfl, hb3⟩
  go_wp2_with fail
  refine (H4.out _).mono ?_
  rintro e w4 ⟨rfl, hb4⟩
  go_wp2_with fail
  refine (H5.out _).mono ?_
  rintro e w5 ⟨rfl, hb5⟩
  go_wp2_with fail
  go_ret
  exact ⟨rfl, chain (chain (chain (chain hb1 hb2) hb3) hb4) hb5⟩

theorem okL_step {m n : Nat} {s : ByteArray} {k : Nat} (h : k < s.size) (ho : okL m n (s.data.toList.drop k)) : okB s[k] ∧ nextN n s[k] ≤ m ∧ okL m (nextN n s[k]) (s.data.toList.drop (k + 1)) := by
  rw [drop_at s k h, getD_at s k h] at ho
  exact ho

set_option maxHeartbeats 1000000 in
set_option maxRecDepth 100000 in
theorem law_back (s : ByteArray) (a : Int) (hwf : (Lit.int .i64 a).wf = true) (w : World) : Calls Try.prog 6 #[.string s, .int .i64 a] w (TruePost w) := by
  by_cases hs : s.size ≤ 1000
  · have hd : decide ((1000:Int) < (s.size : Int)) = false := by simp; omega
    obtain ⟨i, hi, e1, e2, e3⟩ := mod_index a 197 (by omega) (by omega)
    have henc := fun w => encode_any s w (by omega)
    have hz : s.data.toList.length = s.size := by simp
    have hle := encL_le s.data.toList
    have hok := soft_ok (4 + i) (by omega) _ (encL s.data.toList) _ (Nat.le_refl _) (enc_encL s.data.toList)
    have hlen := softL_len (4 + i) (by omega) _ (encL s.data.toList) (Nat.le_refl _)
    have hsd := soft_dec (4 + i) (by omega) _ (encL s.data.toList) _ [] (Nat.le_refl _) (enc_encL s.data.toList)
    have hd1 := dec_encL s.data.toList
    have hsr : softR (encL s.data.toList) ((4 : Int) + i) = (softL (4 + i) (encL s.data.toList), 0) := by
      unfold softR
      rw [if_neg (by omega), hd1, if_neg (by simp), show ((4 : Int) + i).toNat = 4 + i by omega]
    obtain ⟨t, ht⟩ : ∃ t : ByteArray, t.data.toList = encL s.data.toList := ⟨⟨(encL s.data.toList).toArray⟩, rfl⟩
    have htz : t.size = (encL s.data.toList).length := by rw [← ht]; simp
    rw [← ht] at henc hok hlen hsd hd1 hsr htz hle
    obtain ⟨l, hl⟩ : ∃ l : ByteArray, l.data.toList = softL (4 + i) t.data.toList := ⟨⟨(softL (4 + i) t.data.toList).toArray⟩, rfl⟩
    have hlz : l.size = (softL (4 + i) t.data.toList).length := by rw [← hl]; simp
    rw [← hl] at hok hlen hsd hsr hlz
    have hsoft := fun w => soft_any t ((4:Int) + i) w (by omega)
    have hdt := fun w => decode_any t w (by omega)
    have hdl := fun w => decode_any l w (by omega)
    rw [hsr] at hsoft
    rw [hd1] at hdt
    rw [hsd] at hdl
    have hlb : l.size ≤ 100000 := by omega
    have H1 := Lib.hid (show ∀ w, Calls Try.prog 8 #[.string s] w (EncPost t w) from henc)
    have H2 := Lib.hid (show ∀ w, Calls Try.prog 12 #[.string t, .int .i64 ((4:Int) + i)] w (PairPost l 0 w) from hsoft)
    have H3 := Lib.hid (show ∀ w, Calls Try.prog 10 #[.string t] w (PairPost s 0 w) from hdt)
    have H4 := Lib.hid (show ∀ w, Calls Try.prog 10 #[.string l] w (PairPost s 0 w) from hdl)
    have HOK := Lib.hid hok
    clear henc hsoft hdt hdl hok hlen hsd hd1 hsr ht htz hl hlz hle hz
    push_cast at e1 e2
    go_enter Try.func6, Try.ntmps6
    go_wp2_with fail
    refine (works_true _).mono ?_
    rintro e w1 ⟨rfl, hb1⟩
    go_wp2_with fail
    refine (H1.out _).mono ?_
    rintro e w2 ⟨rfl, hb2⟩
    go_wp2_with fail
    refine (H2.out _).mono ?_
    rintro e w3 ⟨rfl, hb3⟩
    go_wp2_with fail
    refine (H3.out _).mono ?_
    rintro e w4 ⟨rfl, hb4⟩
    go_wp2_with fail
    refine (H4.out _).mono ?_
    rintro e w5 ⟨rfl, hb5⟩
    go_wp2_with fail
    have hb := chain (chain (chain (chain hb1 hb2) hb3) hb4) hb5
    clear hb1 hb2 hb3 hb4 hb5
    go_loop [12, 13] (fun v12 v13 => ∃ k n : Nat, k ≤ l.size ∧ n ≤ k ∧ v13 = .int .i64 k ∧ v12 = .int .i64 n ∧ Hid (okL (4 + i) n (l.data.toList.drop k))) (fun _ v13 => l.size - (intOf v13).toNat)
    case atStart => exact ⟨0, 0, by omega, by omega, rfl, rfl, HOK⟩
    case round =>
      obtain ⟨k, n, hk, hn, rfl, rfl, hokl⟩ := hrel
      by_cases hks : k < l.size
      · obtain ⟨o1, o2, o3⟩ := okL_step hks hokl.out
        obtain ⟨c, hcd⟩ : ∃ c, l[k] = c := ⟨_, rfl⟩
        rw [hcd] at o1 o2 o3
        have O3 := Lib.hid o3
        clear o3
        go_wp2_with fail
        all_goals first
          | (exfalso; unfold nextN at o2; unfold okB at o1; (repeat' split at o2) <;> omega)
          | (go_round
             case measure => simp [intOf]; omega
             case rel => exact ⟨k + 1, nextN n c, by omega, (by unfold nextN; (repeat' split) <;> omega), by go_num, (by unfold nextN; (repeat' split) <;> first | rfl | (exfalso; omega)), O3⟩)
      · go_wp2_with fail
        go_ret
        exact ⟨rfl, hb⟩
  · have hd : decide ((1000:Int) < (s.size : Int)) = true := by simp; omega
    go_enter Try.func6, Try.ntmps6
    go_wp2_with fail
    refine (works_true _).mono ?_
    rintro e w1 ⟨rfl, hb1⟩
    go_wp2_with fail
    go_ret
    exact ⟨rfl, hb1⟩

theorem back_own : ownKnob Try.prog.godebug = none := by kernel_rfl
theorem back_laid : laidOutB Try.prog = true := by kernel_rfl

set_option maxRecDepth 100000 in
theorem back_lifted (os : Os) (started : os.Started) (H : Type) (enc : TypeId × Value → H) :
    ReturnsInHanded {} Try.checked os 6 .any (Rows.quotedBackSpec.pre6 enc Try.prog Try.f6 Rows.quotedBackRow.domain false) (Rows.quotedBackSpec.post enc Try.prog Try.f6 false true false false) := by
  refine law_lifted (C := Try.checked) 4 back_own started (by kernel_rfl) Try.func6 back_laid rfl (by kernel_rfl) Try.underlying4 (by kernel_rfl)
    (fun ds h => by match ds, h with | [_, _], _ => rfl)
    (ChangeSpec.witness6 (enc := enc) (C := Try.checked) false ⟨#[], #[.string ByteArray.empty, .int .i64 0], []⟩ 8 (by kernel_rfl) (by kernel_rfl) (by kernel_rfl) (by kernel_rfl)) ?_
  intro W base args ds p hval0 hA0 hfz
  have hval : ∀ (j : Nat) t v, Try.f6.params[j]? = some t → args[j]? = some v → Value.okWide Try.prog W .any base t v := hval0
  have hA : DataW.TrodAll enc Try.prog W 0 (fun _ => true) true Try.f6.params.toList args.toList ds p := hA0
  rw [Try.params6] at hA hval
  obtain ⟨v0, vs0, d0, ds0, p0, q0, hargs, rfl, rfl, h0, r0⟩ := trodAll_cons hA
  obtain ⟨v1, vs1, d1, ds1, p1, q1, rfl, rfl, rfl, h1, r1⟩ := trodAll_cons r0
  obtain ⟨rfl, rfl, rfl⟩ := trodAll_nil r1
  obtain rfl : args = #[v0, v1] := by cases args; simp_all
  obtain ⟨a0, rfl, _, _, _⟩ := open_string Try.underlying9 (hval 0 9 v0 rfl rfl) h0
  obtain ⟨a1, rfl, _, _, w1⟩ := open_int Try.underlying3 (hval 1 3 v1 rfl rfl) h1
  exact law_back a0 a1 w1 W

theorem back_holds : Rows.QuotedBackSaid :=
  OpenClaim.holds_of_wide 6 Try.f6 rfl rfl rfl rfl rfl rfl rfl ⟨rfl, rfl, rfl, rfl, rfl⟩ rfl rfl rfl rfl rfl (by kernel_rfl) Try.func6 (by kernel_rfl)
    (of_decide_eq_true (by kernel_rfl)) (by unfold Func.isWrapper; rw [if_neg (of_decide_eq_false (by kernel_rfl))]; exact ⟨rfl, rfl⟩)
    (fun os started H enc _ => back_lifted os started H enc)

end Go.Proofs.Ytjcglbopggcmdaa
