/- strings.LastIndexAny where the characters that are looked for are ASCII. -/
import Derived.Test.YtcfbmfcobpfcjaaDoorRuneAt
import Derived.Shelf.Strings.AsciiSet
import Derived.Lib.AsciiSet
import Derived.Lib.SpaceU
namespace Go.Proofs.YtcfbmfcobpfcjaaDoor
open Go.RowKit Lift
set_option linter.unusedSimpArgs false
set_option linter.unusedVariables false

/-- Where the last one of some bytes is; -1: nowhere. -/
def lastAny (chars : List UInt8) : List UInt8 → Int
  | [] => -1
  | c :: r => if 0 ≤ lastAny chars r then lastAny chars r + 1 else if chars.contains c then 0 else -1
def NoFrom (s chars : List UInt8) (i : Nat) : Prop := ∀ (j : Nat) b, i ≤ j → s[j]? = some b → chars.contains b = false
theorem lastAny_none {chars : List UInt8} : ∀ {s : List UInt8}, NoFrom s chars 0 → lastAny chars s = -1
  | [], _ => rfl
  | c :: r, h => by
    have ih : lastAny chars r = -1 := lastAny_none (fun j b hj hb => h (j + 1) b (by omega) (by simpa using hb))
    have hc := h 0 c (by omega) rfl
    rw [lastAny, ih, hc]; rfl
theorem lastAny_hit {chars : List UInt8} {x : UInt8} (hx : chars.contains x = true) : ∀ {s : List UInt8} {i : Nat}, s[i]? = some x → NoFrom s chars (i + 1) → lastAny chars s = i
  | [], i, h, _ => by simp at h
  | c :: r, 0, h, hn => by
    have ih : lastAny chars r = -1 := lastAny_none (fun j b hj hb => hn (j + 1) b (by omega) (by simpa using hb))
    obtain rfl : c = x := by simpa using h
    rw [lastAny, ih, hx]; rfl
  | c :: r, i + 1, h, hn => by
    have ih : lastAny chars r = i := lastAny_hit hx (s := r) (i := i) (by simpa using h) (fun j b hj hb => hn (j + 1) b (by omega) (by simpa using hb))
    rw [lastAny, ih, if_pos (by omega)]; rfl
theorem NoFrom.end (s chars : List UInt8) : NoFrom s chars s.length := fun j b hj hb => by have := (List.getElem?_eq_some_iff.1 hb).1; omega
theorem NoFrom.down {s chars : List UInt8} {i k : Nat} (h : NoFrom s chars (i + k)) (hn : ∀ j b, j < k → s[i + j]? = some b → chars.contains b = false) : NoFrom s chars i := fun j b hj hb => by
  by_cases hji : i + k ≤ j
  · exact h j b hji hb
  · exact hn (j - i) b (by omega) (by rw [show i + (j - i) = j by omega]; exact hb)

set_option maxHeartbeats 8000000 in
set_option maxRecDepth 1000000 in
theorem lastAny_long (s chars : ByteArray) (w : World) (h2 : 2 ≤ chars.size) (h8 : 8 < s.size) (hs : s.size < 4294967281) (hcs : chars.size < 4294967281) (hascii : Low chars) :
    Calls Tryd.prog 43 #[.string s, .string chars] w (BelowPost (.int .i64 (lastAny chars.data.toList s.data.toList)) w) := by
  have hv116 : ∀ w, (zeroValue 84).run Tryd.prog w = .ok (.agg (Array.replicate 256 (.bool false))) w := (zero_of_info (n := 256) (by kernel_rfl)).1
  have hi116 : (Tryd.prog.info? 84).map (·.size) = some 256 := by kernel_rfl
  have hM := Tryd.strings_makeASCIISet hv116 chars w hcs (fun j b hb => hascii b (List.mem_of_getElem? hb))
  have hemp : chars.toList.isEmpty = false := by
    rw [Lib.toList_data]
    cases h : chars.data.toList with
    | nil => have := Lib.size_eq chars; rw [h, List.length_nil] at this; omega
    | cons _ _ => rfl
  have hs1 : ((s.size : Int) == 1) = false := beq_eq_false_iff_ne.2 (by omega)
  have hn1 : ((chars.size : Int) == 1) = false := beq_eq_false_iff_ne.2 (by omega)
  have h8z : decide ((8 : Int) < (s.size : Int)) = true := decide_eq_true (by omega)
  have hsc : (storeCells ⟨w.heap.size + 1, 0, none⟩ (Lib.setCells chars.data.toList).toList 0).run Tryd.prog ((w.alloc (.cells (Lib.setCells chars.data.toList) 84)).alloc (.cells (Array.replicate 256 (.bool false)) 84)) = .ok () ((w.alloc (.cells (Lib.setCells chars.data.toList) 84)).alloc (.cells (Lib.setCells chars.data.toList) 84)) := by
    have := run_storeCells_new (P := Tryd.prog) (w.alloc (.cells (Lib.setCells chars.data.toList) 84)) 84 (Array.replicate 256 (.bool false)) (Lib.setCells chars.data.toList) (by rw [Lib.setCells_size]; exact hi116) (by rw [Lib.setCells_size, Array.size_replicate]) (Lib.setCells_one _)
    simpa using this
  have hsz := Lib.setCells_size chars.data.toList
  have HC := Lib.hid (show ∀ x : UInt8, ((w.alloc (.cells (Lib.setCells chars.data.toList) 84)).alloc (.cells (Lib.setCells chars.data.toList) 84)).cell? ⟨w.heap.size + 1, x.toNat, none⟩ = some (.bool (chars.data.toList.contains x)) from fun x => by
    rw [World.cell?_alloc_at _ _ _ _ (by simp), Lib.setCells_at])
  clear hascii
  go_enter Tryd.func43, Tryd.ntmps43
  go_wp2_with (first
    | (go_at_call 70; refine (Tryd.strings_shouldUseASCIISet _ _).mono ?_; rintro e w' ⟨rfl, hw⟩; rw [hw, h8z])
    | (go_at_call 71; refine hM.mono ?_; rintro e w' ⟨rfl, hw⟩; rw [hw]))
  clear hM hsc hsz
  have hbel : Below w.heap.size w ((w.alloc (.cells (Lib.setCells chars.data.toList) 84)).alloc (.cells (Lib.setCells chars.data.toList) 84)) := ((Below.refl _ _).alloc (Nat.le_refl _) _).alloc (by simp) _
  go_loopg [8] s.size (fun g s8 wx => ∃ i : Int, s8 = .int .i64 i ∧ Hid (i = (g : Int) - 1) ∧ g ≤ s.size ∧ wx = ((w.alloc (.cells (Lib.setCells chars.data.toList) 84)).alloc (.cells (Lib.setCells chars.data.toList) 84)) ∧ Hid (NoFrom s.data.toList chars.data.toList g))
  case atStart => exact ⟨_, rfl, Lib.hid rfl, by omega, rfl, Lib.hid (by have := NoFrom.end s.data.toList chars.data.toList; rwa [show s.data.toList.length = s.size by simp] at this)⟩
  case round =>
    obtain ⟨i, rfl, hi, hg, rfl, hno⟩ := hrel
    cases gk with
    | zero =>
      obtain rfl : i = -1 := by have := hi.out; omega
      have HR := Lib.hid (lastAny_none hno.out)
      clear hno hi
      go_wp2_with fail
      go_ret
      exact ⟨by rw [HR.out]; rfl, hbel⟩
    | succ g =>
      obtain rfl : i = (g : Int) := by have := hi.out; omega
      have hgl : g < s.size := by omega
      have hg2 : (g : Int) < (s.size : Int) := by omega
      obtain ⟨x, hx⟩ : ∃ x : UInt8, s[g]'hgl = x := ⟨_, rfl⟩
      have HY := Lib.hid (show s.data.toList[g]? = some x by rw [← hx]; exact Lib.data_getElem? s g hgl)
      have HC1 := Lib.hid (HC.out x)
      have hgb : (g : Int) ≤ 4294967281 := by omega
      cases hin : chars.data.toList.contains x
      · have HN := Lib.hid (show NoFrom s.data.toList chars.data.toList g from NoFrom.down (k := 1) hno.out (fun j b hj hb => by
          have h0 : j = 0 := by omega
          rw [h0, Nat.add_zero, HY.out] at hb
          rw [← Option.some.inj hb]; exact hin))
        rw [hin] at HC1
        clear hno hi hin
        go_wp2_with fail
        refine (Tryd.asciiSet_contains _ x _ _ HC1.out).mono ?_
        rintro e w' ⟨rfl, hw⟩
        rw [hw]
        go_wp2_with fail
        go_roundg g
        case measure => omega
        case rel => exact ⟨_, rfl, Lib.hid rfl, by omega, rfl, HN⟩
      · have HR := Lib.hid (lastAny_hit hin HY.out hno.out)
        rw [hin] at HC1
        clear hno hi hin
        go_wp2_with fail
        refine (Tryd.asciiSet_contains _ x _ _ HC1.out).mono ?_
        rintro e w' ⟨rfl, hw⟩
        rw [hw]
        go_wp2_with fail
        go_ret
        exact ⟨by rw [HR.out]; rfl, hbel⟩

/-! ### A short text: rune by rune, from its end -/
theorem last_high {l : List UInt8} (h : l ≠ []) (hx : 128 ≤ (l.getD (l.length - 1) 0).toNat) :
    (128 ≤ (Lib.decodeLastL l).1 ∧ (Lib.decodeLastL l).1 ≤ 1114111 ∧ validRune ((Lib.decodeLastL l).1 : Int) = true) ∧ (1 ≤ (Lib.decodeLastL l).2 ∧ (Lib.decodeLastL l).2 ≤ l.length) ∧ ∀ j b, l.length - (Lib.decodeLastL l).2 ≤ j → l[j]? = some b → 128 ≤ b.toNat := by
  have hlen : 0 < l.length := List.length_pos_iff.2 h
  have herr : (128 ≤ (Utf8.runeError, 1).1 ∧ (Utf8.runeError, 1).1 ≤ 1114111 ∧ validRune ((Utf8.runeError, 1).1 : Int) = true) ∧ (1 ≤ (Utf8.runeError, 1).2 ∧ (Utf8.runeError, 1).2 ≤ l.length) ∧ ∀ j b, l.length - (Utf8.runeError, 1).2 ≤ j → l[j]? = some b → 128 ≤ b.toNat := by
    refine ⟨by decide, ⟨Nat.le_refl _, hlen⟩, fun j b hj hb => ?_⟩
    have hjl := (List.getElem?_eq_some_iff.1 hb).1
    obtain rfl : j = l.length - 1 := by simp only at hj; omega
    rw [List.getD_eq_getElem?_getD, hb] at hx
    exact hx
  unfold Lib.decodeLastL
  rw [if_neg h, if_neg (by omega)]
  simp only
  split
  · rename_i hd
    obtain ⟨k, hk⟩ : ∃ k, Lib.lastStart l = k := ⟨_, rfl⟩
    rw [hk] at hd ⊢
    have hkl : k < l.length := by
      rw [← hk]; unfold Lib.lastStart; simp only; repeat' split
      all_goals omega
    have hk2 : l.length = 1 ∨ k + 2 ≤ l.length := by
      rw [← hk]; unfold Lib.lastStart; simp only; repeat' split
      all_goals omega
    have hdl : (l.drop k).length = l.length - k := List.length_drop
    have hz : (⟨(l.drop k).toArray⟩ : ByteArray).size = l.length - k := by show (l.drop k).toArray.size = _; simp
    have hg : ∀ i, i < l.length - k → (⟨(l.drop k).toArray⟩ : ByteArray).get! i = l.getD (k + i) 0 := by
      intro i hi
      rw [get_at _ i (by rw [hz]; exact hi)]
      show (l.drop k).toArray[i]'_ = _
      simp [List.getD_eq_getElem?_getD, List.getElem?_eq_getElem (show k + i < l.length by omega)]
    unfold Lib.decodeL at hd ⊢
    by_cases hx0 : ((⟨(l.drop k).toArray⟩ : ByteArray).get! 0).toNat < 128
    · exfalso
      have h0 : 0 < (⟨(l.drop k).toArray⟩ : ByteArray).size := by rw [hz]; omega
      rw [get_at _ 0 h0] at hx0
      rw [decode_ascii _ 0 h0 hx0] at hd
      simp only at hd
      rw [← get_at _ 0 h0, hg 0 (by omega)] at hx0
      rcases hk2 with h1 | h1
      · have : k + 0 = l.length - 1 := by omega
        rw [this] at hx0; omega
      · omega
    · have hh := dec_high ⟨(l.drop k).toArray⟩ 0 (by rw [hz]; omega) (by omega)
      generalize Utf8.decode ⟨(l.drop k).toArray⟩ 0 = d at hh hd ⊢
      refine ⟨hh.1, ⟨hh.2.1.1, by omega⟩, fun j b hj hb => ?_⟩
      have hjl := (List.getElem?_eq_some_iff.1 hb).1
      have := hh.2.2 (j - k) (by omega)
      rw [Nat.zero_add, hg (j - k) (by omega), show k + (j - k) = j by omega, List.getD_eq_getElem?_getD, hb] at this
      exact this
  · exact herr
theorem last_low {l : List UInt8} (h : l ≠ []) (hx : (l.getD (l.length - 1) 0).toNat < 128) : Lib.decodeLastL l = ((l.getD (l.length - 1) 0).toNat, 1) := by
  unfold Lib.decodeLastL
  rw [if_neg h, if_pos hx]
/-- What IndexRune says of the last rune of a text. -/
theorem idxRune_last (chars : ByteArray) (l : List UInt8) (w : World) (hs : Low chars) (hl : chars.size ≤ 1000) (h : l ≠ []) :
    Calls Tryd.prog 69 #[.string chars, .int .i32 (Lib.decodeLastL l).1] w (RunePost (chars.data.toList.contains (l.getD (l.length - 1) 0)) w) := by
  by_cases hx : (l.getD (l.length - 1) 0).toNat < 128
  · rw [last_low h hx]
    refine (Tryd.strings_IndexRune_ascii chars _ w (by omega) (by omega)).mono ?_
    rintro e w' ⟨rfl, rfl⟩
    refine ⟨_, rfl, ?_, Below.refl _ _⟩
    rw [Lib.contains_iff_indexByte, show (((l.getD (l.length - 1) 0).toNat : Nat) : Int).toNat.toUInt8 = l.getD (l.length - 1) 0 by simp]
  · obtain ⟨⟨h1, h2, h3⟩, _⟩ := last_high h (by omega)
    rw [low_contains hs (by omega)]
    by_cases he : (Lib.decodeLastL l).1 = 65533
    · rw [he]
      exact (idxRune_err chars w hs hl).mono fun e w' h => ⟨_, h.1, rfl, h.2⟩
    · exact (idxRune_high chars _ w hs h3 (by omega) (by omega) (by omega) hl).mono fun e w' h => ⟨_, h.1, rfl, h.2⟩
theorem noFrom_rune {s : List UInt8} {chars : ByteArray} {i : Nat} (hs : Low chars) (hi : 0 < i) (hl : i ≤ s.length) (h : NoFrom s chars.data.toList i) (hc : chars.data.toList.contains ((s.take i).getD ((s.take i).length - 1) 0) = false) :
    NoFrom s chars.data.toList (i - (Lib.decodeLastL (s.take i)).2) ∧ 1 ≤ (Lib.decodeLastL (s.take i)).2 ∧ (Lib.decodeLastL (s.take i)).2 ≤ i := by
  have hlen : (s.take i).length = i := by rw [List.length_take]; omega
  have hne : s.take i ≠ [] := by intro e; rw [e] at hlen; simp at hlen; omega
  by_cases hx : ((s.take i).getD ((s.take i).length - 1) 0).toNat < 128
  · rw [last_low hne hx]
    refine ⟨NoFrom.down (k := 1) (by simpa [show i - 1 + 1 = i by omega] using h) (fun j b hj hb => ?_), by simp, by simp; omega⟩
    have h0 : j = 0 := by omega
    rw [h0, Nat.add_zero] at hb
    have hb : s[i - 1]? = some b := by simpa using hb
    rw [hlen, List.getD_eq_getElem?_getD, List.getElem?_take, if_pos (by omega), hb] at hc
    exact hc
  · obtain ⟨_, ⟨h1, h2⟩, h3⟩ := last_high hne (by omega)
    rw [hlen] at h2
    refine ⟨fun j b hj hb => ?_, h1, h2⟩
    by_cases hji : i ≤ j
    · exact h j b hji hb
    · have := h3 j b (by rw [hlen]; omega) (by rw [List.getElem?_take, if_pos (by omega)]; exact hb)
      exact low_contains hs this
theorem lastAny_rune {s : List UInt8} {chars : ByteArray} {i : Nat} (hs : Low chars) (hi : 0 < i) (hl : i ≤ s.length) (h : NoFrom s chars.data.toList i) (hc : chars.data.toList.contains ((s.take i).getD ((s.take i).length - 1) 0) = true) :
    lastAny chars.data.toList s = ((i - (Lib.decodeLastL (s.take i)).2 : Nat) : Int) ∧ (Lib.decodeLastL (s.take i)).2 = 1 := by
  have hlen : (s.take i).length = i := by rw [List.length_take]; omega
  have hne : s.take i ≠ [] := by intro e; rw [e] at hlen; simp at hlen; omega
  have hx : ((s.take i).getD ((s.take i).length - 1) 0).toNat < 128 := by
    by_cases hx : ((s.take i).getD ((s.take i).length - 1) 0).toNat < 128
    · exact hx
    · rw [low_contains hs (by omega)] at hc; cases hc
  have hl1 := last_low hne hx
  obtain ⟨x, hxx⟩ := some_at (l := s) (k := i - 1) (by omega)
  rw [hlen, List.getD_eq_getElem?_getD, List.getElem?_take, if_pos (by omega), hxx] at hc
  rw [hl1]
  exact ⟨lastAny_hit hc hxx (by rwa [show i - 1 + 1 = i by omega]), rfl⟩

theorem tabs_below {a b : Nat} {w w' : World} (h : Lib.Utf8Tabs a b w) (hb : Below w.heap.size w w') : Lib.Utf8Tabs a b w' := by
  have hlt : ∀ {k o : Nat} {v : Value}, w.cell? ⟨k, o, none⟩ = some v → k < w.heap.size := by
    intro k o v h
    rcases Nat.lt_or_ge k w.heap.size with h5 | h5
    · exact h5
    · simp [World.cell?, Array.getElem?_eq_none h5] at h
  obtain ⟨h1, h2⟩ := h
  have ha := hlt (h1 0 (by omega))
  have hbb := hlt (h2 0 (by omega)).1
  exact ⟨fun c hc => (hb.cell (p := ⟨a, c, none⟩) ha).trans (h1 c hc), fun i hi => ⟨(hb.cell (p := ⟨b, 2 * i, none⟩) hbb).trans (h2 i hi).1, (hb.cell (p := ⟨b, 2 * i + 1, none⟩) hbb).trans (h2 i hi).2⟩⟩
theorem extract_take (s : ByteArray) (i : Nat) : (s.extract 0 i).data.toList = s.data.toList.take i := by
  rw [ByteArray.data_extract, Array.toList_extract]; simp [List.extract_eq_take_drop]
set_option maxHeartbeats 8000000 in
set_option maxRecDepth 1000000 in
theorem lastAny_short (s chars : ByteArray) (w : World) (h2 : 2 ≤ chars.size) (hl : chars.size ≤ 1000) (h8 : s.size ≤ 8) (hs1 : s.size ≠ 1) (hs : Low chars) (hT : Lib.Utf8Tabs 0 1 w) :
    Calls Tryd.prog 43 #[.string s, .string chars] w (BelowPost (.int .i64 (lastAny chars.data.toList s.data.toList)) w) := by
  have hemp : chars.toList.isEmpty = false := by
    rw [Lib.toList_data]
    cases h : chars.data.toList with
    | nil => have := Lib.size_eq chars; rw [h, List.length_nil] at this; omega
    | cons _ _ => rfl
  have hs1 : ((s.size : Int) == 1) = false := beq_eq_false_iff_ne.2 (by omega)
  have hn1 : ((chars.size : Int) == 1) = false := beq_eq_false_iff_ne.2 (by omega)
  have h8z : decide ((8 : Int) < (s.size : Int)) = false := decide_eq_false (by omega)
  have HS := Lib.hid hs
  have HT := Lib.hid hT
  have hll : s.data.toList.length = s.size := by simp
  have HLL := Lib.hid hll
  clear hs hT hll
  go_enter Tryd.func43, Tryd.ntmps43
  go_wp2_with (go_at_call 70; refine (Tryd.strings_shouldUseASCIISet _ _).mono ?_; rintro e w' ⟨rfl, hw⟩; rw [hw, h8z])
  go_loopw [13] (fun v13 wx => ∃ i : Nat, v13 = .int .i64 i ∧ i ≤ s.size ∧ Hid (NoFrom s.data.toList chars.data.toList i) ∧ Below w.heap.size w wx) (fun v13 _ => (intOf v13).toNat)
  case atStart => exact ⟨s.size, rfl, by omega, Lib.hid (by have := NoFrom.end s.data.toList chars.data.toList; rwa [HLL.out] at this), Below.refl _ _⟩
  case round =>
    obtain ⟨i, rfl, his, hno, hb⟩ := hrel
    rcases Nat.eq_zero_or_pos i with rfl | hi
    · have HR := Lib.hid (lastAny_none hno.out)
      clear hno
      go_wp2_with fail
      go_ret
      exact ⟨by rw [HR.out]; rfl, hb⟩
    · have hi2 : (0 : Int) < (i : Int) := by omega
      have HD := Tryd.utf8_DecodeLastRuneInString (s.extract 0 i) wr (by rw [ByteArray.size_extract]; omega) (tabs_below HT.out hb)
      rw [extract_take] at HD
      have hne : s.data.toList.take i ≠ [] := by
        intro e
        have := congrArg List.length e
        rw [List.length_take, HLL.out, List.length_nil] at this
        omega
      have HI := Lib.hid (fun w => idxRune_last chars (s.data.toList.take i) w HS.out hl hne)
      have HN := Lib.hid (fun hc => noFrom_rune HS.out hi (by rw [HLL.out]; omega) hno.out hc)
      have HY := Lib.hid (fun hc => lastAny_rune HS.out hi (by rw [HLL.out]; omega) hno.out hc)
      have hsz : 1 ≤ (Lib.decodeLastL (s.data.toList.take i)).2 ∧ (Lib.decodeLastL (s.data.toList.take i)).2 ≤ i := by
        cases hc : chars.data.toList.contains ((s.data.toList.take i).getD ((s.data.toList.take i).length - 1) 0)
        · exact (HN.out hc).2
        · rw [(HY.out hc).2]; exact ⟨Nat.le_refl _, hi⟩
      generalize Lib.decodeLastL (s.data.toList.take i) = d at HD HI HN HY hsz
      have HDD := Lib.hid HD
      clear HD hno hne
      obtain ⟨r, z⟩ := d
      simp only at hsz
      go_wp2_with fail
      refine HDD.out.mono ?_
      rintro e w2 ⟨rfl, hb2⟩
      simp only
      go_wp2_with fail
      refine (HI.out _).mono ?_
      rintro e w3 ⟨n, rfl, hn, hb3⟩
      have hB3 := hb.trans ((chain hb2 hb3).mono hb.size)
      cases hc : chars.data.toList.contains ((s.data.toList.take i).getD ((s.data.toList.take i).length - 1) 0)
      · rw [hc] at hn
        have HN2 := Lib.hid (HN.out hc).1
        have hn2 : decide (0 ≤ n) = false := hn
        clear HN HY hc hn HI HDD
        go_wp2_with fail
        go_roundw
        case measure => simp [intOf]; omega
        case rel => exact ⟨i - z, by congr 1; omega, by omega, HN2, hB3⟩
      · rw [hc] at hn
        have HR := Lib.hid (HY.out hc).1
        have hn2 : decide (0 ≤ n) = true := hn
        clear HN HY hc hn HI HDD
        go_wp2_with fail
        go_ret
        exact ⟨by rw [HR.out]; exact congrArg (fun x => Ending.returned (.int .i64 x)) (by omega), hB3⟩
theorem lastAny_one (s chars : ByteArray) (w : World) (h2 : 2 ≤ chars.size) (hl : chars.size ≤ 1000) (hs1 : s.size = 1) (hs : Low chars) :
    Calls Tryd.prog 43 #[.string s, .string chars] w (BelowPost (.int .i64 (lastAny chars.data.toList s.data.toList)) w) := by
  have hemp : chars.toList.isEmpty = false := by
    rw [Lib.toList_data]
    cases h : chars.data.toList with
    | nil => have := Lib.size_eq chars; rw [h, List.length_nil] at this; omega
    | cons _ _ => rfl
  have h0 : 0 < s.size := by omega
  obtain ⟨x, hx⟩ : ∃ x : UInt8, s[0]'h0 = x := ⟨_, rfl⟩
  have hsl : s.data.toList = [x] := by
    have h1 := Lib.data_getElem? s 0 h0
    rw [hx] at h1
    have h2 : s.data.toList.length = 1 := by simpa using hs1
    match hd : s.data.toList, h2 with
    | [y], _ => rw [hd] at h1; simp at h1; rw [h1]
  have HSL := Lib.hid hsl
  have hxn := x.toNat_lt
  have hcon : lastAny chars.data.toList s.data.toList = if chars.data.toList.contains x then 0 else -1 := by
    rw [hsl]; simp [lastAny]
  have HCN := Lib.hid hcon
  clear hsl hcon
  by_cases hx1 : 128 ≤ x.toNat
  · have HR := Lib.hid (show lastAny chars.data.toList s.data.toList = -1 by rw [HCN.out, low_contains hs hx1]; rfl)
    have HI := Lib.hid (fun w => idxRune_err chars w hs hl)
    have hx2 : (128 : Int) ≤ (x.toNat : Int) := by omega
    clear hs HCN HSL
    go_enter Tryd.func43, Tryd.ntmps43
    go_wp2_with fail
    refine (HI.out _).mono ?_
    rintro e w2 ⟨rfl, hb2⟩
    go_wp2_with fail
    go_ret
    exact ⟨by rw [HR.out]; rfl, hb2⟩
  · have HI := Lib.hid (fun w => Tryd.strings_IndexRune_ascii chars x.toNat w (by omega) (by omega))
    have hcx : chars.data.toList.contains x = decide (0 ≤ Lib.indexByte chars.data.toList (x.toNat : Int).toNat.toUInt8) := by
      rw [Lib.contains_iff_indexByte, show ((x.toNat : Nat) : Int).toNat.toUInt8 = x by simp]
    have hx2 : ¬ (128 : Int) ≤ (x.toNat : Int) := by omega
    rw [hcx] at HCN
    generalize Lib.indexByte chars.data.toList (x.toNat : Int).toNat.toUInt8 = n at HI HCN
    clear hs HSL hcx
    go_enter Tryd.func43, Tryd.ntmps43
    go_wp2_with fail
    refine (HI.out _).mono ?_
    rintro e w2 ⟨rfl, rfl⟩
    cases hn : decide (0 ≤ n)
    · rw [hn] at HCN
      go_wp2_with fail
      go_ret
      exact ⟨by rw [HCN.out]; rfl, Below.refl _ _⟩
    · rw [hn] at HCN
      go_wp2_with fail
      go_ret
      exact ⟨by rw [HCN.out]; rfl, Below.refl _ _⟩
theorem lastAny_any (s chars : ByteArray) (w : World) (h2 : 2 ≤ chars.size) (hl : chars.size ≤ 1000) (hz : s.size < 4294967281) (hs : Low chars) (hT : Lib.Utf8Tabs 0 1 w) :
    Calls Tryd.prog 43 #[.string s, .string chars] w (BelowPost (.int .i64 (lastAny chars.data.toList s.data.toList)) w) := by
  by_cases h8 : s.size ≤ 8
  · by_cases h1 : s.size = 1
    · exact lastAny_one s chars w h2 hl h1 hs
    · exact lastAny_short s chars w h2 hl h8 h1 hs hT
  · exact lastAny_long s chars w h2 (by omega) hz (by omega) hs
end Go.Proofs.YtcfbmfcobpfcjaaDoor
