/- Many texts as one: strings.Join. -/
import Derived.Test.YtcfbmfcobpfcjaaDoorBKg
import Derived.Test.YtcfbmfcobpfcjaaDoorStrs
namespace Go.Proofs.YtcfbmfcobpfcjaaDoor
open Go.RowKit Lift
set_option linter.unusedSimpArgs false
set_option linter.unusedVariables false

def tailJ (sep : List UInt8) (l : List ByteArray) : List UInt8 := l.flatMap (fun y => sep ++ y.data.toList)
def joinB (sep : List UInt8) : List ByteArray → List UInt8
  | [] => []
  | x :: r => x.data.toList ++ tailJ sep r
def sumB (l : List ByteArray) : Nat := (l.map ByteArray.size).sum
theorem sumB_take {l : List ByteArray} {k : Nat} {c : ByteArray} (h : l[k]? = some c) : sumB (l.take (k + 1)) = sumB (l.take k) + c.size := by
  rw [take_at2 h]; simp [sumB]
theorem sumB_take_le (l : List ByteArray) (k : Nat) : sumB (l.take k) ≤ sumB l := by
  have h := congrArg sumB (List.take_append_drop k l)
  unfold sumB at h ⊢
  rw [List.map_append, List.sum_append] at h
  omega
theorem tailJ_len (sep : List UInt8) (l : List ByteArray) : (tailJ sep l).length = sep.length * l.length + sumB l := by
  induction l with
  | nil => rfl
  | cons c l ih =>
    unfold tailJ sumB at *
    rw [List.flatMap_cons, List.length_append, ih, List.length_append, List.map_cons, List.sum_cons, List.length_cons, Nat.mul_succ]
    have : c.data.toList.length = c.size := by simp
    omega
theorem tailJ_take {sep : List UInt8} {l : List ByteArray} {k : Nat} {c : ByteArray} (h : l[k]? = some c) : tailJ sep (l.take (k + 1)) = tailJ sep (l.take k) ++ (sep ++ c.data.toList) := by
  unfold tailJ; rw [take_at2 h, List.flatMap_append]; simp

theorem sumB_drop_le (l : List ByteArray) (k : Nat) : sumB (l.drop k) ≤ sumB l := by
  have h := congrArg sumB (List.take_append_drop k l)
  unfold sumB at h ⊢
  rw [List.map_append, List.sum_append] at h
  omega
theorem tail_bound {sep : List UInt8} {L : List ByteArray} {x : ByteArray} (k : Nat) (h1 : sep.length ≤ 1000) (h2 : L.length ≤ 100000) (h3 : sumB L ≤ 1000000000) (h4 : x.size ≤ 1000000000) : (x.data.toList ++ tailJ sep ((L.drop 1).take k)).length ≤ 2100000000 := by
  rw [List.length_append, tailJ_len]
  have g1 : ((L.drop 1).take k).length ≤ 100000 := by simp; omega
  have g2 := Nat.mul_le_mul h1 g1
  have g3 := Nat.le_trans (sumB_take_le (L.drop 1) k) (sumB_drop_le L 1)
  have g4 : x.data.toList.length = x.size := by simp
  omega
end Go.Proofs.YtcfbmfcobpfcjaaDoor
