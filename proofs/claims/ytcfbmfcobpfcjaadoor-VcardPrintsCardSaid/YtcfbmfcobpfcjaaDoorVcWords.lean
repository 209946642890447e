/- Words of a card: what its texts may be; both, the program's and the document's (printed by gen_words.py). -/
import Derived.Test.YtcfbmfcobpfcjaaDoorVcDeep
import Derived.Test.YtcfbmfcobpfcjaaDoorPrName2
namespace Go.Proofs.YtcfbmfcobpfcjaaDoor
open Go.RowKit Lift
set_option linter.unusedSimpArgs false
set_option linter.unusedVariables false

def kQP : ByteArray := ⟨#[81, 85, 79, 84, 69, 68, 45, 80, 82, 73, 78, 84, 65, 66, 76, 69]⟩
def kB64 : ByteArray := ⟨#[66, 65, 83, 69, 54, 52]⟩
def k8 : ByteArray := ⟨#[56, 66, 73, 84]⟩
def k7 : ByteArray := ⟨#[55, 66, 73, 84]⟩
def kEnc : ByteArray := ⟨#[69, 78, 67, 79, 68, 73, 78, 71]⟩
def kChr : ByteArray := ⟨#[67, 72, 65, 82, 83, 69, 84]⟩
def kBeg : ByteArray := ⟨#[66, 69, 71, 73, 78]⟩
def kEnd : ByteArray := ⟨#[69, 78, 68]⟩
def kVer : ByteArray := ⟨#[86, 69, 82, 83, 73, 79, 78]⟩
def kAge : ByteArray := ⟨#[65, 71, 69, 78, 84]⟩
def isHow (s : ByteArray) : Bool := decide (s = kQP) || decide (s = kB64) || decide (s = k8) || decide (s = k7)
def isFramed (s : ByteArray) : Bool := decide (s = kBeg) || decide (s = kEnd) || decide (s = kVer)
theorem eq_list (s : ByteArray) (a : Array UInt8) : decide (s = ⟨a⟩) = decide (s.toList = a.toList) := by
  rw [decide_eq_decide, Lib.toList_data]
  constructor
  · rintro rfl; rfl
  · intro h; exact ByteArray.ext (Array.toList_inj.1 h)
set_option maxHeartbeats 1000000 in
set_option maxRecDepth 100000 in
theorem written_any (s : ByteArray) (w : World) : Calls Tryd.prog 84 #[.string s] w (BoolPost (isHow s) w) := by
  have HW := Lib.hid (show isHow s = (decide (s.toList = [81, 85, 79, 84, 69, 68, 45, 80, 82, 73, 78, 84, 65, 66, 76, 69]) || decide (s.toList = [66, 65, 83, 69, 54, 52]) || decide (s.toList = [56, 66, 73, 84]) || decide (s.toList = [55, 66, 73, 84])) by unfold isHow; rw [show decide (s = kQP) = decide (s.toList = [81, 85, 79, 84, 69, 68, 45, 80, 82, 73, 78, 84, 65, 66, 76, 69]) from eq_list s _, show decide (s = kB64) = decide (s.toList = [66, 65, 83, 69, 54, 52]) from eq_list s _, show decide (s = k8) = decide (s.toList = [56, 66, 73, 84]) from eq_list s _, show decide (s = k7) = decide (s.toList = [55, 66, 73, 84]) from eq_list s _])
  go_enter Tryd.func84, Tryd.ntmps84
  go_wp2_with fail
  all_goals
    go_ret
    exact ⟨ret_bool (by rw [HW.out, Bool.eq_iff_iff]; simp [*]), rfl⟩
set_option maxHeartbeats 1000000 in
set_option maxRecDepth 100000 in
theorem how_any (s : ByteArray) (w : World) : Calls Tryd.prog 46 #[.string s] w (BoolPost (isHow s) w) := by
  have HW := Lib.hid (show isHow s = (decide (s.toList = [81, 85, 79, 84, 69, 68, 45, 80, 82, 73, 78, 84, 65, 66, 76, 69]) || decide (s.toList = [66, 65, 83, 69, 54, 52]) || decide (s.toList = [56, 66, 73, 84]) || decide (s.toList = [55, 66, 73, 84])) by unfold isHow; rw [show decide (s = kQP) = decide (s.toList = [81, 85, 79, 84, 69, 68, 45, 80, 82, 73, 78, 84, 65, 66, 76, 69]) from eq_list s _, show decide (s = kB64) = decide (s.toList = [66, 65, 83, 69, 54, 52]) from eq_list s _, show decide (s = k8) = decide (s.toList = [56, 66, 73, 84]) from eq_list s _, show decide (s = k7) = decide (s.toList = [55, 66, 73, 84]) from eq_list s _])
  go_enter Tryd.func46, Tryd.ntmps46
  go_wp2_with fail
  all_goals
    go_ret
    exact ⟨ret_bool (by rw [HW.out, Bool.eq_iff_iff]; simp [*]), rfl⟩
set_option maxHeartbeats 1000000 in
set_option maxRecDepth 100000 in
theorem framed_any (s : ByteArray) (w : World) : Calls Tryd.prog 35 #[.string s] w (BoolPost (isFramed s) w) := by
  have HW := Lib.hid (show isFramed s = (decide (s.toList = [66, 69, 71, 73, 78]) || decide (s.toList = [69, 78, 68]) || decide (s.toList = [86, 69, 82, 83, 73, 79, 78])) by unfold isFramed; rw [show decide (s = kBeg) = decide (s.toList = [66, 69, 71, 73, 78]) from eq_list s _, show decide (s = kEnd) = decide (s.toList = [69, 78, 68]) from eq_list s _, show decide (s = kVer) = decide (s.toList = [86, 69, 82, 83, 73, 79, 78]) from eq_list s _])
  go_enter Tryd.func35, Tryd.ntmps35
  go_wp2_with fail
  all_goals
    go_ret
    exact ⟨ret_bool (by rw [HW.out, Bool.eq_iff_iff]; simp [*]), rfl⟩
set_option maxHeartbeats 1000000 in
set_option maxRecDepth 100000 in
theorem framed_ref (s : ByteArray) (w : World) : Calls Tryd.prog 48 #[.string s] w (BoolPost (isFramed s) w) := by
  have HW := Lib.hid (show isFramed s = (decide (s.toList = [66, 69, 71, 73, 78]) || decide (s.toList = [69, 78, 68]) || decide (s.toList = [86, 69, 82, 83, 73, 79, 78])) by unfold isFramed; rw [show decide (s = kBeg) = decide (s.toList = [66, 69, 71, 73, 78]) from eq_list s _, show decide (s = kEnd) = decide (s.toList = [69, 78, 68]) from eq_list s _, show decide (s = kVer) = decide (s.toList = [86, 69, 82, 83, 73, 79, 78]) from eq_list s _])
  go_enter Tryd.func48, Tryd.ntmps48
  go_wp2_with fail
  all_goals
    go_ret
    exact ⟨ret_bool (by rw [HW.out, Bool.eq_iff_iff]; simp [*]), rfl⟩
end Go.Proofs.YtcfbmfcobpfcjaaDoor
