/- The reference's plate: how it lies in memory; its put. -/
import Derived.Test.YtaljgcdjkmpljaaDoorPlLaws
import Derived.Test.YtaljgcdjkmpljaaDoorPlTorn
namespace Go.Proofs.YtaljgcdjkmpljaaDoor
open Go.RowKit Lift
set_option linter.unusedSimpArgs false
set_option linter.unusedVariables false

/-- So many bytes from a place on are a text's, and zeros behind it. -/
def putB (B : List UInt8) (o : Nat) (s : ByteArray) (f : Nat) : Nat → List UInt8
  | 0 => B
  | k + 1 => (putB B o s f k).set (o + (f + k)) (nb s (f + k))
theorem putB_len (B : List UInt8) (o : Nat) (s : ByteArray) (f : Nat) : ∀ k, (putB B o s f k).length = B.length
  | 0 => rfl
  | k + 1 => by unfold putB; rw [List.length_set, putB_len B o s f k]
theorem putB_get (B : List UInt8) (o : Nat) (s : ByteArray) (f : Nat) : ∀ k i, (putB B o s f k)[i]? = if o + f ≤ i ∧ i < o + f + k ∧ i < B.length then some (nb s (i - o)) else B[i]?
  | 0, i => by rw [if_neg (by omega)]; rfl
  | k + 1, i => by
    unfold putB
    rw [List.getElem?_set, putB_get B o s f k i, putB_len]
    by_cases h1 : o + (f + k) = i
    · subst h1
      rw [if_pos rfl]
      by_cases h2 : o + (f + k) < B.length
      · rw [if_pos h2, if_pos ⟨by omega, by omega, h2⟩, show o + (f + k) - o = f + k by omega]
      · rw [if_neg h2, if_neg (fun h => h2 h.2.2), List.getElem?_eq_none (by omega)]
    · rw [if_neg h1]
      by_cases h2 : o + f ≤ i ∧ i < o + f + k ∧ i < B.length
      · rw [if_pos h2, if_pos ⟨h2.1, by omega, h2.2.2⟩]
      · rw [if_neg h2, if_neg (fun h => h2 ⟨h.1, by omega, h.2.2⟩)]
theorem set_cs (l : List UInt8) (i : Nat) (c : UInt8) : (Cs l).set i (.int .u8 (c.toNat : Int)) = Cs (l.set i c) := by
  simp [Lib.byteCells, List.map_set]
def PutPost (g : Nat) (B : List UInt8) (w : World) (e : Ending) (w' : World) : Prop :=
  e = .returned (.tuple #[]) ∧ Bytes w' g B ∧ Kept (fun k => k = g) w w'
set_option maxHeartbeats 1000000 in
set_option maxRecDepth 100000 in
theorem put_ref {g len cap a f l : Nat} {w : World} {B : List UInt8} {s : ByteArray} (h : Bytes w g B) (hBl : B.length = len) (hgl : g < w.heap.size) (hs : s.size ≤ 64) (hf : f ≤ l) (hl : l ≤ 64) (ha : 64 * a + 64 ≤ len) (hlen : len ≤ 600000) :
    Calls Tryd.prog 55 #[.slice (some ⟨g, 0, none⟩) len cap, .agg #[.int .i64 (a : Int), .string s], .int .i64 (f : Int), .int .i64 (l : Int)] w (PutPost g (putB B (64 * a) s f (l - f)) w) := by
  have H := Lib.hid h
  have HBL := Lib.hid hBl
  clear h hBl
  go_enter Tryd.func55, Tryd.ntmps55
  go_wp2_with fail
  go_loopw [8] (fun v8 wr => ∃ k : Nat, f + k ≤ l ∧ v8 = .int .i64 ((f + k : Nat) : Int) ∧ Hid (Bytes wr g (putB B (64 * a) s f k)) ∧ Kept (fun k => k = g) w wr ∧
    wr.cell? ⟨w.heap.size, 0, none⟩ = some (.int .i64 (a : Int)) ∧ wr.cell? ⟨w.heap.size, 1, none⟩ = some (.string s)) (fun v8 _ => l - (intOf v8).toNat)
  case atStart =>
    refine ⟨0, by omega, rfl, Lib.hid ?_, (Kept.refl _ w).new, by simp [go_sem], by simp [go_sem]⟩
    exact H.out.keep ((Below.refl _ w).alloc (Nat.le_refl _) _) hgl
  case round =>
    obtain ⟨k, hk, rfl, hO, hK, x0, x1⟩ := hrel
    by_cases hkl : f + k < l
    · obtain ⟨i, hi⟩ : ∃ i, f + k = i := ⟨_, rfl⟩
      have hgs := hK.size
      have hne : g ≠ w.heap.size := by omega
      have hi64 : i < 64 := by omega
      have hci : wr.cell? ⟨g, 64 * a + i, none⟩ = some (.int .u8 (((putB B (64 * a) s f k).getD (64 * a + i) 0).toNat : Int)) := by
        have hlen2 : 64 * a + i < (putB B (64 * a) s f k).length := by rw [putB_len, HBL.out]; omega
        exact hO.out.cell _ hlen2
      have hfi : wr.frozen? ⟨g, 64 * a + i, none⟩ = false := hO.out.free _ (by rw [putB_len, HBL.out]; omega)
      have hST := Lib.hid (hO.out.set (64 * a + i) (nb s i) ((nb s i).toNat : Int) rfl)
      generalize (putB B (64 * a) s f k).getD (64 * a + i) 0 = old at hci
      have hil : (i : Int) < (l : Int) := by omega
      have hil2 : i < l := by omega
      have hai : (64 : Int) * (a : Int) + (i : Int) < (len : Int) := by omega
      have hai2 : 64 * a + i < len := by omega
      have ha1 : (a : Int) ≤ 10000 := by omega
      have hii : (i : Int) ≤ 64 := by omega
      have hnb := pad_get s i hs hi64
      rw [hi]
      have HI := Lib.hid hi
      clear hi hkl
      by_cases his : i < s.size
      · rw [dif_pos his] at hnb
        have hisi : (i : Int) < (s.size : Int) := by omega
        have HNB := Lib.hid (show nb s i = s[i] from hnb)
        clear hnb
        go_wp2_with fail
        go_roundw
        case measure => simp [intOf]; omega
        case rel =>
          have hi := HI.out
          refine ⟨k + 1, by omega, by rw [← Nat.add_assoc, hi]; go_num, Lib.hid ?_, hK.set rfl, ?_, ?_⟩
          · have e := hST.out
            rw [HNB.out] at e
            unfold putB
            rw [hi, HNB.out]
            exact e
          · rw [World.cell?_setCell_other _ _ _ _ (by intro e; injection e with e _; exact hne e)]; exact x0
          · rw [World.cell?_setCell_other _ _ _ _ (by intro e; injection e with e _; exact hne e)]; exact x1
      · rw [dif_neg his] at hnb
        have HNB := Lib.hid (show nb s i = 0 from hnb)
        have hisi : decide ((i : Int) < (s.size : Int)) = false := by simp; omega
        have hisi2 : ¬ (i : Int) < (s.size : Int) := by omega
        clear hnb
        go_wp2_with fail
        go_roundw
        case measure => simp [intOf]; omega
        case rel =>
          have hi := HI.out
          refine ⟨k + 1, by omega, by rw [← Nat.add_assoc, hi]; go_num, Lib.hid ?_, hK.set rfl, ?_, ?_⟩
          · have e := hST.out
            rw [HNB.out] at e
            unfold putB
            rw [hi, HNB.out]
            exact e
          · rw [World.cell?_setCell_other _ _ _ _ (by intro e; injection e with e _; exact hne e)]; exact x0
          · rw [World.cell?_setCell_other _ _ _ _ (by intro e; injection e with e _; exact hne e)]; exact x1
    · obtain rfl : k = l - f := by omega
      have hll : ((f + (l - f) : Nat) : Int) = (l : Int) := by omega
      rw [hll]
      have hge : ¬ (l : Int) < (l : Int) := by omega
      go_wp2_with fail
      go_end0
      exact ⟨rfl, hO.out, hK⟩
end Go.Proofs.YtaljgcdjkmpljaaDoor
