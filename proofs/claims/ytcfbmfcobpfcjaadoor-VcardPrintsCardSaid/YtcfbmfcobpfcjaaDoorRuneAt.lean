/- strings.IndexAny and strings.ContainsAny over any text, where the characters that are looked for are ASCII. -/
import Derived.Test.YtcfbmfcobpfcjaaDoorRows
import Derived.Handy
import Derived.Lib.Hide
import Derived.BigQuiet
import Derived.WalkSpells
import Derived.WalkLawsBesides
import Derived.Lib.IndexLaws
import Derived.Lib.IndexAny
import Derived.Lib.DecodeN
import Derived.Lib.QuoteLoop
import Derived.Laws.RangeString
import Derived.Laws.Strings3
import Derived.Laws.Runes
import Derived.Deep.LoopGhost
import Derived.WalkMore
import Derived.Lib.OthersKept
import Derived.Shelf.Strings.IndexAnyAll
import Derived.Test.YtcfbmfcobpfcjaaDoorShelf
import Derived.Test.YtcfbmfcobpfcjaaDoorRd2
namespace Go.Proofs.YtcfbmfcobpfcjaaDoor
open Go.RowKit Lift
set_option linter.unusedSimpArgs false
set_option linter.unusedVariables false

theorem decN_high (n b0 b1 b2 b3 : Nat) (hn : 1 ≤ n) (h0 : 128 ≤ b0) (h1 : b0 < 256) : 128 ≤ (Lib.decodeN n b0 b1 b2 b3).1 ∧ (1 ≤ (Lib.decodeN n b0 b1 b2 b3).2 ∧ (Lib.decodeN n b0 b1 b2 b3).2 ≤ n ∧ (Lib.decodeN n b0 b1 b2 b3).2 ≤ 4) ∧ (1 < (Lib.decodeN n b0 b1 b2 b3).2 → 128 ≤ b1) ∧ (2 < (Lib.decodeN n b0 b1 b2 b3).2 → 128 ≤ b2) ∧ (3 < (Lib.decodeN n b0 b1 b2 b3).2 → 128 ≤ b3) := by
  unfold Lib.decodeN
  rw [if_neg (by omega)]
  repeat' split
  all_goals (simp only; omega)

/-- A rune that begins with a byte from 128 on: all of its bytes are such, and it is a right one from 128 on. -/
theorem dec_high (s : ByteArray) (pos : Nat) (h : pos < s.size) (hx : 128 ≤ (s.get! pos).toNat) :
    (128 ≤ (Utf8.decode s pos).1 ∧ (Utf8.decode s pos).1 ≤ 1114111 ∧ validRune ((Utf8.decode s pos).1 : Int) = true) ∧ (1 ≤ (Utf8.decode s pos).2 ∧ pos + (Utf8.decode s pos).2 ≤ s.size) ∧ ∀ k, k < (Utf8.decode s pos).2 → 128 ≤ (s.get! (pos + k)).toNat := by
  have hb := fun i => (s.get! i).toNat_lt
  have hd := decN_high (s.size - pos) (s.get! pos).toNat (s.get! (pos + 1)).toNat (s.get! (pos + 2)).toNat (s.get! (pos + 3)).toNat (by omega) hx (hb pos)
  have hv := Lib.decodeN_valid (s.size - pos) (s.get! pos).toNat (s.get! (pos + 1)).toNat (s.get! (pos + 2)).toNat (s.get! (pos + 3)).toNat (hb pos)
  rw [← Lib.decode_at] at hd hv
  generalize Utf8.decode s pos = d at hd hv ⊢
  refine ⟨⟨hd.1, by omega, ?_⟩, ⟨hd.2.1.1, by omega⟩, fun k hk => ?_⟩
  · unfold validRune
    rw [decide_eq_true_eq]
    omega
  · rcases k with _ | _ | _ | _ | k
    · exact hx
    · exact hd.2.2.1 (by omega)
    · exact hd.2.2.2.1 (by omega)
    · exact hd.2.2.2.2 (by omega)
    · omega

section
variable {P : Program}
theorem run_next_any (w : World) (s : ByteArray) (pos : Nat) (ty : TypeId) (h : pos < s.size) :
    (Instr.next (.pointer (some ⟨w.heap.size, 0, none⟩)) true ty).run P (w.iter s pos) =
      .ok (.tuple #[.bool true, .int .i64 pos, .int .i32 (Utf8.decode s pos).1]) (w.iter s (pos + (Utf8.decode s pos).2)) := by
  simp only [Instr.next, getObj, setObj, Sem.run_bind, Sem.run, World.iter_heap, Result.andThen, h, if_true, World.iter_set]
  simp [goInt, Sem.run, World.iter_heap, World.iter_set]
end

theorem get_at (s : ByteArray) (i : Nat) (h : i < s.size) : s.get! i = s[i]'h := by
  show s.get! i = _
  simp [ByteArray.get!, getElem!_pos, h]
  rfl

def Low (s : ByteArray) : Prop := ∀ b ∈ s.data.toList, b.toNat < 128
theorem indexByte_absent : ∀ (l : List UInt8) (c : UInt8), (∀ b ∈ l, b ≠ c) → Lib.indexByte l c = -1
  | [], _, _ => rfl
  | b :: l, c, h => by
    have ih := indexByte_absent l c (fun x hx => h x (List.mem_cons_of_mem _ hx))
    have hb : (b == c) = false := by simpa using h b (List.mem_cons_self ..)
    unfold Lib.indexByte
    rw [hb, ih]
    rfl
theorem no_high {s : ByteArray} (hs : Low s) (a e : Nat) {y : UInt8} (hy : 128 ≤ y.toNat) : Lib.indexByte (s.extract a e).data.toList y = -1 :=
  indexByte_absent _ _ fun b hb hbc => by have := hs b (mem_extract hb); rw [hbc] at this; omega
theorem Low.at {s : ByteArray} (hs : Low s) {i : Nat} (h : i < s.size) : (s[i]'h).toNat < 128 := hs _ (Array.getElem_mem_toList (xs := s.data) h)

theorem idxB_high {s : ByteArray} (hs : Low s) (a e : Nat) {y : UInt8} (hy : 128 ≤ y.toNat) (w : World) : Calls Tryd.prog 87 #[.string (s.extract a e), .int .u8 y.toNat] w fun e w' => e = .returned (.int .i64 (-1)) ∧ w' = w := by
  refine (Tryd.strings_IndexByte _ _ _).mono ?_
  rintro x w' ⟨rfl, rfl⟩
  exact ⟨by rw [show ((y.toNat : Int)).toNat.toUInt8 = y by simp, no_high hs a e hy], rfl⟩
theorem valid_any (r : Int) (w : World) (hv : validRune r = true) : Calls Tryd.prog 88 #[.int .i32 r] w (BoolPost true w) := by
  refine (Tryd.utf8_ValidRune r w).mono ?_
  rintro e w' ⟨rfl, rfl⟩
  exact ⟨by rw [show Lib.validRune r = true from by
    unfold validRune at hv; unfold Lib.validRune
    rw [decide_eq_true_eq] at hv ⊢
    omega], rfl⟩

set_option maxHeartbeats 1000000 in
set_option maxRecDepth 100000 in
theorem idxRune_high (chars : ByteArray) (r : Int) (w : World) (hs : Low chars) (hv : validRune r = true) (h128 : 128 ≤ r) (hr : r ≤ 1114111) (h3 : r ≠ 65533) (hl : chars.size ≤ 1000) :
    Calls Tryd.prog 69 #[.string chars, .int .i32 r] w (BelowPost (.int .i64 (-1)) w) := by
  have HS := Lib.hid hs
  have HV := Lib.hid hv
  have HE := encode_facts r (by rw [validRune_eq]; exact hv) h128
  clear hs hv
  obtain ⟨E, hE⟩ : ∃ E, Utf8.encode r = E := ⟨_, rfl⟩
  rw [hE] at HE
  obtain ⟨hE2, hE4, hEl⟩ := HE
  have HL := Lib.hid hEl
  clear hEl
  have hl1 : E.size - 1 < E.size := by omega
  obtain ⟨y, hy⟩ : ∃ y, E[E.size - 1]'hl1 = y := ⟨_, rfl⟩
  have hy1 : 128 ≤ y.toNat := by rw [← hy]; exact HL.out hl1
  clear HL
  have hlast : ((E.size : Int) - 1).toNat = E.size - 1 := by omega
  have hcv : ∀ w : World, (convert 21 9 (.int .i32 r)).run Tryd.prog w = .ok (.string E) w := fun w => by
    rw [run_convert_int_string w 21 9 .i32 r (by rw [Tryd.underlying21]; rfl) Tryd.underlying9, hE]
  go_enter Tryd.func69, Tryd.ntmps69
  have hc1 : ¬ (r < 128) := by omega
  have hc2 : (r == 65533) = false := by simpa using h3
  go_wp2_with (go_at_call 88; refine (valid_any _ _ HV.out).mono ?_; rintro e w1 ⟨rfl, rfl⟩)
  go_step3
  go_wp2_with fail
  clear hE hc2
  go_loopw [9] (fun v9 wr => v9 = .int .i64 ((E.size : Int) - 1) ∧ wr = w) (fun _ _ => 0)
  case atStart => exact ⟨by go_num, rfl⟩
  case round =>
    obtain ⟨rfl, rfl⟩ := hrel
    by_cases hi : E.size - 1 < chars.size
    · have hi2 : (E.size : Int) - 1 < (chars.size : Int) := by omega
      obtain ⟨x, hx⟩ : ∃ x, chars[E.size - 1]'hi = x := ⟨_, rfl⟩
      have hx1 : x.toNat < 128 := by rw [← hx]; exact HS.out.at hi
      have hne : (x == y) = false := by simp; intro h; rw [h] at hx1; omega
      have hne2 : ((x.toNat : Int) == (y.toNat : Int)) = false := by simp; omega
      have hsl : ((E.size : Int) - 1 + 1) ≤ (chars.size : Int) := by omega
      have HI := Lib.hid (idxB_high HS.out E.size chars.size hy1)
      go_wp2_with fail
      go_step3
      go_wp2_with fail
      (refine wp_region_quiet_lit (by kernel_rfl) (by kernel_rfl) ?_; (repeat (any_goals (first | go_big_quiet_step (fail) | quiet_step (fail) | (refine wpQuiet_step (fun K hK => ?_); go_simp; split <;> (refine hK _ ?_; clear hK K))))); all_goals (refine wpQuiet_nil ?_; intro _ hw'; obtain ⟨nq, hw''⟩ := hw'; subst hw''))
      go_wp2_with fail
      (refine wp_region_quiet_lit (by kernel_rfl) (by kernel_rfl) ?_; (repeat (any_goals (first | go_big_quiet_step ((go_at_call 87; refine (HI.out _).mono ?_; rintro e w4 ⟨rfl, rfl⟩; exact ⟨rfl, _, rfl⟩)) | quiet_step ((go_at_call 87; refine (HI.out _).mono ?_; rintro e w4 ⟨rfl, rfl⟩; exact ⟨rfl, _, rfl⟩)) | (refine wpQuiet_step (fun K hK => ?_); go_simp; split <;> (refine hK _ ?_; clear hK K))))); all_goals (refine wpQuiet_nil ?_; intro _ hw'; obtain ⟨nq, hw''⟩ := hw'; subst hw''))
      go_wp2_with fail
      go_ret
      exact ⟨rfl, (by first | exact Below.refl _ _ | ((repeat (refine bN _ ?_)); first | exact Below.refl _ _ | go_grown))⟩
    · have hi2 : ¬ ((E.size : Int) - 1 < (chars.size : Int)) := by omega
      go_wp2_with fail
      go_ret
      exact ⟨rfl, Below.refl _ _⟩

set_option maxHeartbeats 1000000 in
set_option maxRecDepth 100000 in
theorem idxRune_err (chars : ByteArray) (w : World) (hs : Low chars) (hl : chars.size ≤ 1000) :
    Calls Tryd.prog 69 #[.string chars, .int .i32 65533] w (BelowPost (.int .i64 (-1)) w) := by
  have HS := Lib.hid hs
  clear hs
  go_enter Tryd.func69, Tryd.ntmps69
  go_wp2_with fail
  go_loopg [5, 6] chars.size (fun g _ _ wx => ∃ i : Nat, i + g = chars.size ∧ wx = w.iter chars i)
  case atStart => exact ⟨0, by omega, rfl⟩
  case round =>
    obtain ⟨i, hig, rfl⟩ := hrel
    cases gk with
    | zero =>
      obtain rfl : i = chars.size := by omega
      have hnx := run_next_end (P := Tryd.prog) w chars chars.size
      go_wp2_with fail
      go_ret
      exact ⟨rfl, (Below.refl _ _).alloc (Nat.le_refl _) _⟩
    | succ g =>
      have hi : i < chars.size := by omega
      obtain ⟨x, hx⟩ : ∃ x : UInt8, chars[i]'hi = x := ⟨_, rfl⟩
      have hx128 : x.toNat < 128 := by rw [← hx]; exact HS.out.at hi
      have hnx := fun ty => run_next_ascii (P := Tryd.prog) w chars i ty hi (by rw [hx]; exact hx128)
      rw [hx] at hnx
      clear hx
      have hne : ((x.toNat : Int) == 65533) = false := by simp; omega
      go_wp2_with fail
      go_roundg g
      case measure => omega
      case rel => exact ⟨i + 1, by omega, rfl⟩

/-- What IndexRune says of a rune that stands in a text. -/
def RunePost (b : Bool) (w : World) (e : Ending) (w' : World) : Prop := ∃ n : Int, e = .returned (.int .i64 n) ∧ decide (0 ≤ n) = b ∧ Below w.heap.size w w'
theorem low_contains {chars : ByteArray} (hs : Low chars) {x : UInt8} (hx : 128 ≤ x.toNat) : chars.data.toList.contains x = false := by
  rw [Bool.eq_false_iff]
  intro h
  have := hs x (by simpa using h)
  omega
theorem idxRune_at (chars s : ByteArray) (pos : Nat) (w : World) (hs : Low chars) (hl : chars.size ≤ 1000) (hp : pos < s.size) :
    Calls Tryd.prog 69 #[.string chars, .int .i32 (Utf8.decode s pos).1] w (RunePost (chars.data.toList.contains (s.get! pos)) w) := by
  by_cases hx : (s.get! pos).toNat < 128
  · rw [get_at s pos hp] at hx ⊢
    rw [decode_ascii s pos hp hx]
    refine (Tryd.strings_IndexRune_ascii chars _ w (by omega) (by omega)).mono ?_
    rintro e w' ⟨rfl, rfl⟩
    refine ⟨_, rfl, ?_, Below.refl _ _⟩
    rw [Lib.contains_iff_indexByte, show ((s[pos]'hp).toNat : Int).toNat.toUInt8 = s[pos]'hp by simp]
  · obtain ⟨⟨h1, h2, h3⟩, _⟩ := dec_high s pos hp (by omega)
    rw [low_contains hs (by omega)]
    by_cases he : (Utf8.decode s pos).1 = 65533
    · rw [he]
      exact (idxRune_err chars w hs hl).mono fun e w' h => ⟨_, h.1, rfl, h.2⟩
    · exact (idxRune_high chars _ w hs h3 (by omega) (by omega) (by omega) hl).mono fun e w' h => ⟨_, h.1, rfl, h.2⟩
theorem NoAny.plus {s chars : List UInt8} {i k : Nat} (h : Lib.NoAny s chars i) (hn : ∀ j b, j < k → s[i + j]? = some b → chars.contains b = false) : Lib.NoAny s chars (i + k) := fun j b hj hb => by
  by_cases hji : j < i
  · exact h j b hji hb
  · exact hn (j - i) b (by omega) (by rw [show i + (j - i) = j by omega]; exact hb)
theorem dec_wide (s : ByteArray) (pos : Nat) (h : pos < s.size) : 1 ≤ (Utf8.decode s pos).2 ∧ pos + (Utf8.decode s pos).2 ≤ s.size := by
  by_cases hx : (s.get! pos).toNat < 128
  · rw [get_at s pos h] at hx
    rw [decode_ascii s pos h hx]
    exact ⟨by show 1 ≤ 1; omega, by show pos + 1 ≤ _; omega⟩
  · exact (dec_high s pos h (by omega)).2.1
theorem noAny_rune {s chars : ByteArray} {pos : Nat} (hs : Low chars) (hp : pos < s.size) (h : Lib.NoAny s.data.toList chars.data.toList pos) (hc : chars.data.toList.contains (s.get! pos) = false) : Lib.NoAny s.data.toList chars.data.toList (pos + (Utf8.decode s pos).2) := by
  refine NoAny.plus h fun j b hj hb => ?_
  by_cases hx : (s.get! pos).toNat < 128
  · have hg := get_at s pos hp
    rw [hg] at hx hc
    rw [decode_ascii s pos hp hx] at hj
    obtain rfl : j = 0 := by simpa using hj
    have := Lib.data_getElem? s pos hp
    rw [Nat.add_zero, this] at hb
    cases hb
    exact hc
  · have hd := dec_high s pos hp (by omega)
    have hjs : pos + j < s.size := by omega
    have := hd.2.2 j hj
    rw [get_at s _ hjs] at this
    rw [Lib.data_getElem? s _ hjs] at hb
    cases hb
    exact low_contains hs this

set_option maxHeartbeats 1000000 in
set_option maxRecDepth 100000 in
theorem indexAny_short (s chars : ByteArray) (w : World) (h2 : 2 ≤ chars.size) (hl : chars.size ≤ 1000) (h8 : s.size ≤ 8) (hs : Low chars) :
    Calls Tryd.prog 83 #[.string s, .string chars] w (BelowPost (.int .i64 (Lib.indexAny s.data.toList chars.data.toList)) w) := by
  have HS := Lib.hid hs
  clear hs
  have hemp : chars.toList.isEmpty = false := by
    rw [Lib.toList_data]
    cases h : chars.data.toList with
    | nil => have := Lib.size_eq chars; rw [h, List.length_nil] at this; omega
    | cons _ _ => rfl
  have hn1 : ((chars.size : Int) == 1) = false := beq_eq_false_iff_ne.2 (by omega)
  have h8z : decide ((8 : Int) < (s.size : Int)) = false := decide_eq_false (by omega)
  go_enter Tryd.func83, Tryd.ntmps83
  go_wp2_with (go_at_call 70; refine (Tryd.strings_shouldUseASCIISet _ _).mono ?_; rintro e w' ⟨rfl, hw⟩; rw [hw, h8z])
  go_wp2_with fail
  go_loopg [9, 10] s.size (fun g _ _ wx => ∃ i : Nat, i ≤ s.size ∧ i + g = s.size ∧ wx.heap[w.heap.size]? = some (.stringIter s i) ∧ Below w.heap.size w wx ∧ Hid (Lib.NoAny s.data.toList chars.data.toList i))
  case atStart => exact ⟨0, by omega, by omega, World.iter_heap w s 0, (Below.refl _ _).alloc (Nat.le_refl _) _, Lib.hid (Lib.NoAny.zero _ _)⟩
  case round =>
    obtain ⟨i, hi0, hig, hit, hb, HN⟩ := hrel
    cases gk with
    | zero =>
      obtain rfl : i = s.size := by omega
      have hnx := fun ty => Lib.run_next_end_at (P := Tryd.prog) wr w.heap.size s s.size ty hit (by omega)
      go_wp2_with fail
      go_ret
      exact ⟨by rw [Lib.indexAny_none (by rw [← Lib.size_eq]; exact HN.out)]; rfl, hb⟩
    | succ g =>
      have hi : i < s.size := by omega
      have hnx := fun ty => Lib.run_next_any_at (P := Tryd.prog) wr w.heap.size s i ty hit hi
      have HR := Lib.hid (idxRune_at chars s i · HS.out hl hi)
      have hit2 := Lib.iterAt_heap wr w.heap.size s i (i + (Utf8.decode s i).2) hit
      have hb2 := Lib.below_iterAt hb (k := w.heap.size) (Nat.le_refl _) s (i + (Utf8.decode s i).2)
      have hlt2 : w.heap.size < (wr.iterAt w.heap.size s (i + (Utf8.decode s i).2)).heap.size := (Array.getElem?_eq_some_iff.1 hit2).1
      have HW := Lib.hid (dec_wide s i hi)
      have HX := Lib.hid (Lib.data_getElem? s i hi)
      have HG := Lib.hid (get_at s i hi)
      cases hin : chars.data.toList.contains (s.get! i) with
      | false =>
        have HN2 := Lib.hid (noAny_rune HS.out hi HN.out hin)
        rw [hin] at HR
        clear hin hit
        generalize (Utf8.decode s i).1 = d1 at hnx HR
        generalize (Utf8.decode s i).2 = d2 at hnx hit2 hb2 hlt2 HW HN2
        go_wp2_with (go_at_call 69; refine (HR.out _).mono ?_; rintro e w4 ⟨n, rfl, hn, hb4⟩)
        have hn2 : ¬ (0 ≤ n) := of_decide_eq_false hn
        clear hn
        go_wp2_with fail
        have hw1 := HW.out
        go_roundg (s.size - (i + d2))
        case measure => omega
        case rel => exact ⟨i + d2, by omega, by omega, (hb4.5 _ hlt2).trans hit2, hb2.trans (hb4.mono (by omega)), HN2⟩
      | true =>
        have HA := Lib.hid (Lib.indexAny_hit HN.out HX.out (by rw [← HG.out]; exact hin))
        rw [hin] at HR
        clear hin hit
        generalize (Utf8.decode s i).1 = d1 at hnx HR
        generalize (Utf8.decode s i).2 = d2 at hnx hit2 hb2 hlt2 HW
        go_wp2_with (go_at_call 69; refine (HR.out _).mono ?_; rintro e w4 ⟨n, rfl, hn, hb4⟩)
        have hn2 : 0 ≤ n := of_decide_eq_true hn
        clear hn
        go_wp2_with fail
        go_ret
        exact ⟨by rw [HA.out]; rfl, hb2.trans (hb4.mono (by omega))⟩

theorem indexAny_any (s chars : ByteArray) (w : World) (h2 : 2 ≤ chars.size) (hl : chars.size ≤ 1000) (hz : s.size < 4294967281) (hs : Low chars) :
    Calls Tryd.prog 83 #[.string s, .string chars] w (BelowPost (.int .i64 (Lib.indexAny s.data.toList chars.data.toList)) w) := by
  by_cases h8 : s.size ≤ 8
  · exact indexAny_short s chars w h2 hl h8 hs
  · refine (Tryd.strings_IndexAny_long (zero_of_info (n := 256) (by kernel_rfl)).1 s chars w h2 (by omega) hz (by omega) fun j b hb => hs b (List.mem_of_getElem? hb)).mono ?_
    rintro e w' ⟨rfl, rfl⟩
    exact ⟨rfl, ((Below.refl _ _).alloc (Nat.le_refl _) _).alloc (by simp) _⟩

set_option maxHeartbeats 1000000 in
set_option maxRecDepth 100000 in
theorem containsAny_any (s chars : ByteArray) (w : World) (h2 : 2 ≤ chars.size) (hl : chars.size ≤ 1000) (hz : s.size < 4294967281) (hs : Low chars) :
    Calls Tryd.prog 57 #[.string s, .string chars] w (BelowPost (.bool (Lib.containsAny s.data.toList chars.data.toList)) w) := by
  have HI := Lib.hid (indexAny_any s chars w h2 hl hz hs)
  clear hs
  go_enter Tryd.func57, Tryd.ntmps57
  go_wp2_with (go_at_call 83; refine HI.out.mono ?_; rintro e w' ⟨rfl, hw⟩)
  go_ret
  exact ⟨rfl, hw⟩
end Go.Proofs.YtcfbmfcobpfcjaaDoor
