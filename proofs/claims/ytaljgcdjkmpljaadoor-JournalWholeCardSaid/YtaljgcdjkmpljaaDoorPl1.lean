/- The plate's small methods: there, burn, Down, Loose, Size, Fuse, Get. -/
import Derived.Test.YtaljgcdjkmpljaaDoorPlDefs
namespace Go.Proofs.YtaljgcdjkmpljaaDoor
open Go.RowKit Lift
set_option linter.unusedSimpArgs false
set_option linter.unusedVariables false

def thereE (st : St) (x : Int) : Int := if st.off then 12 else if x < 0 ∨ (st.no.length : Int) ≤ x then 2 else 0
set_option maxHeartbeats 1000000 in
set_option maxRecDepth 100000 in
theorem there_any {base : Nat} {w : World} {F : Fp} {st : St} (h : Raw base w F st) (x : Int) :
    Calls Tryd.prog 51 #[.pointer (some ⟨F.b, 0, none⟩), .int .i64 x] w (fun e w' => e = .returned (.int .i64 (thereE st x)) ∧ w = w') := by
  obtain ⟨c0, c1, c2, c3, c4⟩ := h.cells
  clear h
  obtain ⟨su, no, lo, fu, off⟩ := st
  unfold thereE
  simp only at c0 c1 c2 c3 c4 ⊢
  cases off with
  | true =>
    go_enter Tryd.func51, Tryd.ntmps51
    go_wp2_with fail
    go_ret
    exact ⟨rfl, rfl⟩
  | false =>
    by_cases h0 : x < 0
    · have hd : decide (x < 0) = true := by simpa using h0
      rw [if_neg (by simp), if_pos (.inl h0)]
      clear h0
      go_enter Tryd.func51, Tryd.ntmps51
      go_wp2_with fail
      go_ret
      exact ⟨rfl, rfl⟩
    · have hd : decide (x < 0) = false := by simpa using h0
      by_cases h1 : (no.length : Int) ≤ x
      · have hd1 : decide ((no.length : Int) ≤ x) = true := by simpa using h1
        rw [if_neg (by simp), if_pos (.inr h1)]
        clear h0 h1
        go_enter Tryd.func51, Tryd.ntmps51
        go_wp2_with fail
        go_ret
        exact ⟨rfl, rfl⟩
      · have hd1 : decide ((no.length : Int) ≤ x) = false := by simpa using h1
        rw [if_neg (by simp), if_neg (by simpa using ⟨by omega, by omega⟩)]
        clear h0 h1
        go_enter Tryd.func51, Tryd.ntmps51
        go_wp2_with fail
        go_ret
        exact ⟨rfl, rfl⟩

/-- A step is done, or the power goes off. -/
def burnS (st : St) : St := if st.fu = 0 then { st with off := true } else if 0 < st.fu then { st with fu := st.fu - 1 } else st
def burnE (st : St) : Int := if st.fu = 0 then 12 else 0
def RawPost (base : Nat) (F : Fp) (st : St) (v : Value) (w : World) (e : Ending) (w' : World) : Prop := e = .returned v ∧ Raw base w' F st ∧ Kept (fun k => k = F.b) w w'
set_option maxHeartbeats 1000000 in
set_option maxRecDepth 100000 in
theorem burn_any {base : Nat} {w : World} {F : Fp} {st : St} (h : Raw base w F st) :
    Calls Tryd.prog 52 #[.pointer (some ⟨F.b, 0, none⟩)] w (RawPost base F (burnS st) (.int .i64 (burnE st)) w) := by
  obtain ⟨c0, c1, c2, c3, c4⟩ := h.cells
  have f3 := h.free 3
  have f4 := h.free 4
  have hu1 := h.fu1
  have hu2 := h.fu2
  have H := Lib.hid h
  clear h
  unfold burnS burnE
  have hw := Kept.refl (fun k => k = F.b) w
  by_cases h0 : st.fu = 0
  · have hd : (st.fu == 0) = true := by simpa using h0
    rw [if_pos h0, if_pos h0]
    clear h0
    go_enter Tryd.func52, Tryd.ntmps52
    go_wp2_with fail
    go_ret
    exact ⟨rfl, H.out.set4 true, hw.set rfl⟩
  · have hd : (st.fu == 0) = false := by simpa using h0
    rw [if_neg h0, if_neg h0]
    clear h0
    by_cases h1 : 0 < st.fu
    · have hd1 : decide (0 < st.fu) = true := by simpa using h1
      rw [if_pos h1]
      go_enter Tryd.func52, Tryd.ntmps52
      go_wp2_with fail
      go_ret
      exact ⟨rfl, H.out.set3 (by omega) (by omega), hw.set rfl⟩
    · have hd1 : decide (0 < st.fu) = false := by simpa using h1
      rw [if_neg h1]
      go_enter Tryd.func52, Tryd.ntmps52
      go_wp2_with fail
      go_ret
      exact ⟨rfl, H.out, hw⟩
set_option maxHeartbeats 1000000 in
set_option maxRecDepth 100000 in
theorem down_any {base : Nat} {w : World} {F : Fp} {st : St} (h : Raw base w F st) : Calls Tryd.prog 18 #[.pointer (some ⟨F.b, 0, none⟩)] w (BoolPost st.off w) := by
  obtain ⟨c0, c1, c2, c3, c4⟩ := h.cells
  clear h
  go_enter Tryd.func18, Tryd.ntmps18
  go_wp2_with fail
  go_ret
  exact ⟨rfl, rfl⟩
set_option maxHeartbeats 1000000 in
set_option maxRecDepth 100000 in
theorem size_any {base : Nat} {w : World} {F : Fp} {st : St} (h : Raw base w F st) : Calls Tryd.prog 61 #[.pointer (some ⟨F.b, 0, none⟩)] w (IntPost .i64 st.no.length w) := by
  obtain ⟨c0, c1, c2, c3, c4⟩ := h.cells
  clear h
  go_enter Tryd.func61, Tryd.ntmps61
  go_wp2_with fail
  go_ret
  exact ⟨rfl, rfl⟩
/-- No value. -/
def VoidRaw (base : Nat) (F F' : Fp) (st : St) (w : World) (e : Ending) (w' : World) : Prop := e = .returned (.tuple #[]) ∧ Raw base w' F' st ∧ Kept (foot F) w w'
theorem foot_b {F : Fp} {w w' : World} (h : Kept (fun k => k = F.b) w w') : Kept (foot F) w w' := h.wide (fun k _ e => .inl e)
set_option maxHeartbeats 1000000 in
set_option maxRecDepth 100000 in
theorem fuse_any {base : Nat} {w : World} {F : Fp} {st : St} (h : Raw base w F st) (n : Int) (hn1 : -9223372036854775808 ≤ n) (hn2 : n ≤ 9223372036854775807) :
    Calls Tryd.prog 14 #[.pointer (some ⟨F.b, 0, none⟩), .int .i64 n] w (VoidRaw base F F { st with fu := max n (-1) } w) := by
  have c3 := h.cells.2.2.2.1
  have f3 := h.free 3
  have H := Lib.hid h
  clear h
  have hw := Kept.refl (fun k => k = F.b) w
  by_cases hm : -1 ≤ n
  · have hd : decide (n < -1) = false := by simpa using hm
    have e : max n (-1) = n := by omega
    rw [e]
    go_enter Tryd.func14, Tryd.ntmps14
    go_wp2_with fail
    go_end0
    exact ⟨rfl, H.out.set3 hm hn2, foot_b (hw.set rfl)⟩
  · have hd : decide (n < -1) = true := by simpa using hm
    have e : max n (-1) = -1 := by omega
    rw [e]
    replace hm : n < -1 := by omega
    go_enter Tryd.func14, Tryd.ntmps14
    go_wp2_with fail
    go_end0
    exact ⟨rfl, H.out.set3 (by omega) (by omega), foot_b (hw.set rfl)⟩

theorem mk_bytes {l m : List UInt8} (h : l = m) : (⟨l.toArray⟩ : ByteArray) = ⟨m.toArray⟩ := by rw [h]
theorem sec_string {base : Nat} {w : World} {g n cap : Nat} {l : Secs} (h : Own rSec (fun _ => True) w base 79 (.slice (some ⟨g, 0, none⟩) n cap) l) {k : Nat} {d : List UInt8} (hk : l[k]? = some d) :
    (convert 32 9 (.slice (some ⟨g, k * 64, none⟩) 64 64)).run Tryd.prog w = .ok (.string ⟨d.toArray⟩) w := by
  obtain ⟨h1, _, h3⟩ := own_sec h hk
  rw [← h3]
  refine run_convert_bytes_back w 32 9 5 ⟨g, k * d.length, none⟩ d.length d Tryd.underlying32 Tryd.underlying5 Tryd.underlying9 ?_
  intro j hj
  rw [Addr.add_mid, h3]
  exact h1 j _ (by simp [Lib.byteCells, hj])
def getV (st : St) (x : Int) : Value := if thereE st x = 0 then .tuple #[.string ⟨(st.no.getD x.toNat []).toArray⟩, .int .i64 0] else .tuple #[.string ⟨#[]⟩, .int .i64 (thereE st x)]
theorem thereE_zero {st : St} {x : Int} (h : thereE st x = 0) : ∃ k : Nat, x = (k : Int) ∧ k < st.no.length ∧ st.off = false := by
  unfold thereE at h
  split at h
  · cases h
  · split at h
    · cases h
    · exact ⟨x.toNat, by omega, by omega, by simpa using ‹¬ st.off = true›⟩
set_option maxHeartbeats 1000000 in
set_option maxRecDepth 100000 in
theorem get_any {base : Nat} {w : World} {F : Fp} {st : St} (h : Raw base w F st) (x : Int) :
    Calls Tryd.prog 43 #[.pointer (some ⟨F.b, 0, none⟩), .int .i64 x] w (fun e w' => e = .returned (getV st x) ∧ w = w') := by
  have HT := Lib.hid (there_any h x)
  by_cases h0 : thereE st x = 0
  · obtain ⟨k, rfl, hk, hoff⟩ := thereE_zero h0
    obtain ⟨d, hd⟩ := some_at hk
    obtain ⟨c0, c1, c2, c3, c4⟩ := h.cells
    have hst := sec_string h.own2 hd
    have hn2 := h.n2
    have e : getV st k = .tuple #[.string ⟨d.toArray⟩, .int .i64 0] := by simp [getV, h0, List.getD_eq_getElem?_getD, hd]
    rw [e]
    rw [h0] at HT
    have hk2 : (k : Int) < (st.no.length : Int) := by omega
    have hk3 : k ≤ 8192 := by omega
    clear e h0 hd h hoff hn2
    go_enter Tryd.func43, Tryd.ntmps43
    go_wp2_with ((with_reducible refine (HT.out).mono ?_); rintro e w' ⟨rfl, rfl⟩)
    go_ret2
    exact ⟨rfl, rfl⟩
  · have e : getV st x = .tuple #[.string ⟨#[]⟩, .int .i64 (thereE st x)] := by simp [getV, h0]
    rw [e]
    have hne : (thereE st x == 0) = false := by simpa using h0
    have hne2 : (thereE st x != 0) = true := by simpa using h0
    generalize thereE st x = y at *
    clear e h0 h
    go_enter Tryd.func43, Tryd.ntmps43
    go_wp2_with ((with_reducible refine (HT.out).mono ?_); rintro e w' ⟨rfl, rfl⟩)
    go_ret2
    exact ⟨rfl, rfl⟩
end Go.Proofs.YtaljgcdjkmpljaaDoor
