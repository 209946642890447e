/- Letters of six bits: the document's Encode. -/
import Derived.Test.YtcfbmfcobpfcjaaDoorVcBit
namespace Go.Proofs.YtcfbmfcobpfcjaaDoor
open Go.RowKit Lift
set_option linter.unusedSimpArgs false
set_option linter.unusedVariables false

def rU8 : Rd UInt8 where
  n := 1
  rel _ _ cs a := cs = [.int .u8 (a.toNat : Int)]
  len := by rintro _ w cs a rfl; rfl
  mono := fun _ _ _ _ _ h _ => h
  kept := fun _ _ _ _ _ _ h _ _ => h
theorem rows_u8 {S : Nat → Prop} {w : World} {xs : List Value} {l : List UInt8} (h : RowsOf rU8 S w xs l) : xs = Lib.byteCells l := by
  obtain ⟨css, rfl, hl, h⟩ := h
  have e : css = l.map (fun c => [Value.int .u8 (c.toNat : Int)]) := by
    apply List.ext_getElem?
    intro k
    rw [List.getElem?_map]
    by_cases hk : k < l.length
    · obtain ⟨c, hc⟩ := some_at hk
      obtain ⟨cs, h1, h2⟩ := h k c hc
      rw [h1, hc, h2]; rfl
    · rw [List.getElem?_eq_none (by omega), List.getElem?_eq_none (by omega)]; rfl
  have hf : ∀ l : List UInt8, (l.map (fun c => [Value.int .u8 (c.toNat : Int)])).flatten = Lib.byteCells l := fun l => by
    unfold Lib.byteCells
    induction l with
    | nil => rfl
    | cons a t ih => rw [List.map_cons, List.flatten_cons, ih]; rfl
  rw [e, hf]
theorem own_u8 {S : Nat → Prop} {w : World} {base : Nat} {e : TypeId} {v : Value} {l : List UInt8} (h : Lift.Own rU8 S w base e v l) : w.ownsRow base e 1 v l.length (Lib.byteCells l) := by
  obtain ⟨xs, h1, h2⟩ := h
  rw [rows_u8 h2] at h1
  exact h1
def kLet : ByteArray := ⟨#[65, 66, 67, 68, 69, 70, 71, 72, 73, 74, 75, 76, 77, 78, 79, 80, 81, 82, 83, 84, 85, 86, 87, 88, 89, 90, 97, 98, 99, 100, 101, 102, 103, 104, 105, 106, 107, 108, 109, 110, 111, 112, 113, 114, 115, 116, 117, 118, 119, 120, 121, 122, 48, 49, 50, 51, 52, 53, 54, 55, 56, 57, 43, 47]⟩
def wordN (s : ByteArray) (i : Nat) : Nat := bN s i * 65536 + bN s (i + 1) * 256 + bN s (i + 2)
def sextN (s : ByteArray) (i k : Nat) : Nat := wordN s i / 2 ^ (18 - 6 * k) % 64
def letC (n : Nat) : UInt8 := kLet.data.toList.getD n 0
def sixV (s : ByteArray) (i k : Nat) : UInt8 := if 8 * s.size ≤ 8 * i + 6 * k then 61 else letC (sextN s i k)
def grp (s : ByteArray) (i : Nat) : List UInt8 := [sixV s i 0, sixV s i 1, sixV s i 2, sixV s i 3]
def grps (s : ByteArray) (g : Nat) : List UInt8 := ((List.range g).map (fun j => grp s (3 * j))).flatten
def sixB (s : ByteArray) : ByteArray := ⟨(grps s ((s.size + 2) / 3)).toArray⟩
theorem grps_succ (s : ByteArray) (g : Nat) : grps s (g + 1) = grps s g ++ grp s (3 * g) := by simp [grps, List.range_succ]
theorem grps_len (s : ByteArray) (g : Nat) : (grps s g).length = 4 * g := by
  induction g with
  | zero => rfl
  | succ g ih => rw [grps_succ, List.length_append, ih]; simp [grp]; omega
def accN (s : ByteArray) (f : Nat) : Nat → Nat
  | 0 => 0
  | j + 1 => 2 * accN s f j + bitN s (f + j)
theorem accN_lt (s : ByteArray) (f : Nat) : ∀ j, accN s f j < 2 ^ j
  | 0 => by simp [accN]
  | j + 1 => by
    have := accN_lt s f j
    have hb : bitN s (f + j) < 2 := by unfold bitN; omega
    simp only [accN, Nat.pow_succ]; omega
set_option maxHeartbeats 4000000 in
theorem accN_six (s : ByteArray) (i k : Nat) (hk : k < 4) : accN s (8 * i + 6 * k) 6 = sextN s i k := by
  have l0 : bN s i < 256 := UInt8.toNat_lt _
  have l1 : bN s (i + 1) < 256 := UInt8.toNat_lt _
  have l2 : bN s (i + 2) < 256 := UInt8.toNat_lt _
  have hb : ∀ c, c < 24 → bitN s (8 * i + c) = bN s (i + c / 8) / 2 ^ (7 - c % 8) % 2 := fun c hc => by
    unfold bitN
    rw [show (8 * i + c) / 8 = i + c / 8 by omega, show (8 * i + c) % 8 = c % 8 by omega]
  simp only [accN, Nat.add_zero, Nat.add_assoc]
  unfold sextN wordN
  rcases (by omega : k = 0 ∨ k = 1 ∨ k = 2 ∨ k = 3) with rfl | rfl | rfl | rfl
  all_goals
    rw [hb _ (by omega), hb _ (by omega), hb _ (by omega), hb _ (by omega), hb _ (by omega), hb _ (by omega)]
    simp only [Nat.reduceMul, Nat.reduceAdd, Nat.reduceDiv, Nat.reduceMod, Nat.reduceSub, Nat.reducePow, Nat.add_zero]
    generalize bN s i = b0 at *
    generalize bN s (i + 1) = b1 at *
    generalize bN s (i + 2) = b2 at *
    omega
theorem kLet_at (n : Nat) (h : n < 64) : ∃ hn, (kLet[n]'hn) = letC n := by
  have hs : kLet.size = 64 := by decide
  refine ⟨by omega, ?_⟩
  unfold letC
  rw [List.getD_eq_getElem?_getD, List.getElem?_eq_getElem (by simpa using (by omega : n < kLet.size))]; rfl
theorem u8_info : (Tryd.prog.info? 5).map (fun i => (i.zero, i.size, i.bytes)) = some (some (.int .u8 0), 1, 1) := by kernel_rfl
theorem grp_at (s : ByteArray) (i k : Nat) (hk : k < 4) : (grp s i).take (k + 1) = (grp s i).take k ++ [sixV s i k] := by
  rcases (by omega : k = 0 ∨ k = 1 ∨ k = 2 ∨ k = 3) with rfl | rfl | rfl | rfl <;> rfl
set_option maxRecDepth 100000 in
set_option maxHeartbeats 8000000 in
theorem sixenc_ref (s : ByteArray) (hs : s.size ≤ 100000) (w : World) : Calls Tryd.prog 29 #[.string s] w (BelowPost (.string (sixB s)) w) := by
  obtain ⟨i0, hi, hz0, hz1, hz2⟩ := info_parts u8_info
  have HI := Lib.hid hi; have HZ0 := Lib.hid hz0; have HZ1 := Lib.hid hz1; have HZ2 := Lib.hid hz2
  clear hi hz0 hz1 hz2
  have HBit := Lib.hid (fun i hi w => bit_ref s hs i hi w)
  go_enter Tryd.func29, Tryd.ntmps29
  go_wp2_with fail
  go_loopw [3, 4, 5, 6, 7, 8] (fun v3 v4 v5 v6 v7 v8 wr => ∃ g : Nat, g ≤ (s.size + 2) / 3 ∧ v4 = .int .i64 ((3 * g : Nat) : Int) ∧ Hid (Lift.Own rU8 (fun _ => True) wr w.heap.size 5 v3 (grps s g)) ∧ Below w.heap.size w wr) (fun _ v4 _ _ _ _ _ => s.size + 3 - (intOf v4).toNat)
  case atStart => exact ⟨0, Nat.zero_le _, rfl, Lib.hid (Lift.Own.nil _ _ _ _ _), Below.refl _ _⟩
  case round =>
    obtain ⟨g, hg, rfl, hO, hb⟩ := hrel
    by_cases hgs : 3 * g < s.size
    · have hgz : ((3 * g : Nat) : Int) < (s.size : Int) := by omega
      obtain ⟨i, hi⟩ : ∃ i, 3 * g = i := ⟨_, rfl⟩
      have HG1 := Lib.hid (show g + 1 ≤ (s.size + 2) / 3 by omega)
      have HGS := Lib.hid (grps_succ s g)
      have HGL := Lib.hid (grps_len s g)
      rw [hi] at hgz HGS ⊢
      have hi3 : i ≤ 100000 := by omega
      have Hi := Lib.hid hi
      have HO0 := Lib.hid (show Lift.Own rU8 (fun _ => True) wr w.heap.size 5 u3 (grps s g ++ (grp s i).take 0) by simpa using hO.out)
      clear hO hg hi hgs
      obtain ⟨wo, rfl⟩ : ∃ x : World, x = wr := ⟨_, rfl⟩
      go_wp2_with fail
      go_loopw [3, 5, 6, 7, 8] (fun v3 v5 v6 v7 v8 wr => ∃ k : Nat, k ≤ 4 ∧ v5 = .int .i64 k ∧ Hid (Lift.Own rU8 (fun _ => True) wr w.heap.size 5 v3 (grps s g ++ (grp s i).take k)) ∧ Below w.heap.size w wr) (fun _ v5 _ _ _ _ => 4 - (intOf v5).toNat)
      case atStart => exact ⟨0, by omega, rfl, HO0, hb⟩
      case round =>
        obtain ⟨k, hk, rfl, hO, hb2⟩ := hrel
        by_cases hk4 : k < 4
        · have hk4z : (k : Int) < 4 := by omega
          have hB2 : w.heap.size ≤ wr.heap.size := hb2.size
          have HGA := Lib.hid (show grps s g ++ (grp s i).take (k + 1) = (grps s g ++ (grp s i).take k) ++ [sixV s i k] by rw [grp_at s i k hk4, List.append_assoc])
          have hlen : (grps s g ++ (grp s i).take k).length = 4 * g + k := by rw [List.length_append, HGL.out]; simp [grp]; omega
          have hgi := Hi.out
          have hlen2 : (grps s g ++ (grp s i).take k).length ≤ 1000000 := by omega
          clear hlen
          obtain ⟨ls, hls⟩ : ∃ ls, grps s g ++ (grp s i).take k = ls := ⟨_, rfl⟩
          rw [hls] at hO HGA hlen2
          obtain ⟨ao, cap, hv3⟩ := hO.out.form
          subst hv3
          clear hls
          by_cases hgap : 8 * s.size ≤ 8 * i + 6 * k
          · have hgz1 : (8 : Int) * (s.size : Int) ≤ 8 * (i : Int) + 6 * (k : Int) := by omega
            have hv : sixV s i k = 61 := by unfold sixV; rw [if_pos hgap]
            rw [hv] at HGA
            clear hgap hv
            go_wp2_with (first
              | (at_builtin; refine wpList_push rU8 rfl _ _ 48 rfl w.heap.size 5 i0 _ 1 Tryd.underlying48 HI.out HZ0.out HZ1.out HZ2.out rfl (by decide) (fun _ => True) _ ls rfl hO.out [.int .u8 61] 61 _ rfl (by simp) rfl (by simp [Value.oneCell']) (by unfold maxLen; omega) (by omega) (by omega) ?_; intro v4 w4 hO4 hK4 hw4; obtain ⟨ao4, cap4, rfl⟩ := hO4.form)
              | fail)
            have hbw : Below w.heap.size w w4 := hb2.trans (hK4.below hB2 (fun k hk => (hO.out.lt k hk.symm).1))
            have HO4 := Lib.hid hO4
            clear hO4 hK4 hw4
            go_roundw
            case measure => simp [intOf]; omega
            case rel => exact ⟨k + 1, by omega, by go_num, by rw [HGA.out]; simpa using HO4, hbw⟩
          · have hgz1 : ¬ (8 : Int) * (s.size : Int) ≤ 8 * (i : Int) + 6 * (k : Int) := by omega
            have hv : sixV s i k = letC (sextN s i k) := by unfold sixV; rw [if_neg hgap]
            rw [hv] at HGA
            have HA6 := Lib.hid (accN_six s i k hk4)
            obtain ⟨f, hf⟩ : ∃ f, 8 * i + 6 * k = f := ⟨_, rfl⟩
            have hfz : (8 : Int) * (i : Int) + 6 * (k : Int) = (f : Int) := by omega
            rw [hf] at HA6
            have hf6 : f ≤ 1000000 := by omega
            have HFZ := Lib.hid hfz
            clear hgap hv
            obtain ⟨w2, rfl⟩ : ∃ x : World, x = wr := ⟨_, rfl⟩
            go_wp2_with fail
            go_loopw [7, 8] (fun v7 v8 wr => ∃ j : Nat, j ≤ 6 ∧ v8 = .int .i64 j ∧ v7 = .int .i64 (accN s f j) ∧ wr = w2) (fun _ v8 _ => 6 - (intOf v8).toNat)
            case atStart => exact ⟨0, by omega, rfl, rfl, rfl⟩
            case round =>
              obtain ⟨j, hj, rfl, rfl, rfl⟩ := hrel
              by_cases hj6 : j < 6
              · have hj6z : (j : Int) < 6 := by omega
                have HB := Lib.hid (HBit.out (f + j) (by omega) wr)
                have HAC := Lib.hid (show accN s f (j + 1) = 2 * accN s f j + bitN s (f + j) from rfl)
                have hal := accN_lt s f j
                have hp2 : 2 ^ j ≤ 64 := Nat.le_trans (Nat.pow_le_pow_right (by omega) hj) (by decide)
                have hbl : bitN s (f + j) < 2 := by unfold bitN; omega
                obtain ⟨ac, hac⟩ : ∃ x, accN s f j = x := ⟨_, rfl⟩
                obtain ⟨bt, hbt⟩ : ∃ x, bitN s (f + j) = x := ⟨_, rfl⟩
                rw [hac] at hal HAC ⊢
                rw [hbt] at hbl HAC HB
                have hac64 : ac < 64 := by omega
                have hfj : (f : Int) + (j : Int) = ((f + j : Nat) : Int) := by omega
                have HFJ := Lib.hid hfj
                clear hac hbt hal hp2 hfj
                go_wp2_with (go_at_call 52; rw [HFJ.out]; refine HB.out.mono ?_; rintro e w5 ⟨rfl, rfl⟩)
                go_roundw
                case measure => simp [intOf]; omega
                case rel => exact ⟨j + 1, by omega, by go_num, by rw [HAC.out]; go_num, by first | rfl | trivial⟩
              · obtain rfl : j = 6 := by omega
                rw [HA6.out]
                obtain ⟨hn, hkl⟩ := kLet_at (sextN s i k) (by unfold sextN; omega)
                have hsx : sextN s i k < 64 := by unfold sextN; omega
                rw [← hkl] at HGA
                clear hkl
                go_wp2_with (first
                  | (at_builtin; refine wpList_push rU8 rfl _ _ 48 rfl w.heap.size 5 i0 _ 1 Tryd.underlying48 HI.out HZ0.out HZ1.out HZ2.out rfl (by decide) (fun _ => True) _ ls rfl hO.out [.int .u8 ((kLet[sextN s i k]'hn).toNat : Int)] (kLet[sextN s i k]'hn) _ rfl (by simp) rfl (by simp [Value.oneCell']) (by unfold maxLen; omega) (by omega) (by omega) ?_; intro v4 w4 hO4 hK4 hw4; obtain ⟨ao4, cap4, rfl⟩ := hO4.form)
                  | fail)
                have hbw : Below w.heap.size w w4 := hb2.trans (hK4.below hB2 (fun k hk => (hO.out.lt k hk.symm).1))
                have HO4 := Lib.hid hO4
                clear hO4 hK4 hw4
                go_roundw
                case measure => simp [intOf]; omega
                case rel => exact ⟨k + 1, by omega, by go_num, by rw [HGA.out]; simpa using HO4, hbw⟩
        · obtain rfl : k = 4 := by omega
          have HO4 := Lib.hid (show Lift.Own rU8 (fun _ => True) wr w.heap.size 5 u3 (grps s (g + 1)) by have := hO.out; rw [HGS.out]; simpa [grp] using this)
          clear hO
          have hi4 : ((i : Int) + 3) = ((3 * (g + 1) : Nat) : Int) := by have := Hi.out; omega
          have HI4 := Lib.hid hi4
          clear hi4
          go_wp2_with fail
          go_roundw
          case measure => simp [intOf]; omega
          case rel => exact ⟨g + 1, HG1.out, by rw [← HI4.out], HO4, hb2⟩
    · have hge : g = (s.size + 2) / 3 := by omega
      have hgz : ¬ ((3 * g : Nat) : Int) < (s.size : Int) := by omega
      have HX := Lib.hid (show sixB s = ⟨(grps s g).toArray⟩ by unfold sixB; rw [hge])
      have hst := own_string (P := Tryd.prog) (own_u8 hO.out) 48 9 5 Tryd.underlying48 Tryd.underlying5 Tryd.underlying9
      clear hge
      go_wp2_with fail
      go_ret
      exact ⟨by rw [HX.out]; rfl, hb⟩
end Go.Proofs.YtcfbmfcobpfcjaaDoor
