/- PropBack holds: a property that is right is read from its line; a line that is read is printed, and read as the same again. No condition. -/
import Derived.Test.YtioeobkneikgfaaPrReads
import Derived.Test.YtioeobkneikgfaaPrBackP
namespace Go.Proofs.Ytioeobkneikgfaa
open Go.ChangeShapes Go.WideShapes Go.ChangeAt Go.RowKit Lift
open Go.ChangeMaps (open_string shut_string)
set_option linter.unusedSimpArgs false
set_option linter.unusedVariables false

theorem read_works1 : readP ⟨#[104, 111, 109, 101, 46, 116, 101, 108, 59, 116, 121, 112, 101, 61, 119, 111, 114, 107, 59, 118, 111, 105, 99, 101, 58, 49, 50]⟩ = ((⟨#[72, 79, 77, 69]⟩, ⟨#[84, 69, 76]⟩, [(⟨#[84, 89, 80, 69]⟩, ⟨#[119, 111, 114, 107]⟩), (⟨#[]⟩, ⟨#[86, 79, 73, 67, 69]⟩)], ⟨#[49, 50]⟩), 0, 0) := by kernel_rfl
theorem read_works2 : readP ⟨#[97, 59, 58, 120]⟩ = fail4 2 3 := by kernel_rfl
theorem capAll_at {s : ByteArray} {k : Nat} (h : ∀ c ∈ s.data.toList.take k, ¬ (97 ≤ c.toNat ∧ c.toNat ≤ 122)) {c : UInt8} (hk : s.data.toList[k]? = some c) (hc : ¬ (97 ≤ c.toNat ∧ c.toNat ≤ 122)) : ∀ d ∈ s.data.toList.take (k + 1), ¬ (97 ≤ d.toNat ∧ d.toNat ≤ 122) := by
  intro d hd
  rw [take_at2 hk, List.mem_append, List.mem_singleton] at hd
  rcases hd with hd | rfl
  · exact h d hd
  · exact hc
set_option maxHeartbeats 1000000 in
set_option maxRecDepth 100000 in
theorem capital_law (s : ByteArray) (w : World) (hs : s.size ≤ 100000) : Calls Try.prog 23 #[.string s] w (BoolPost (capS s) w) := by
  go_enter Try.func23, Try.ntmps23
  go_wp2_with fail
  go_loopw [3] (fun v3 wr => ∃ k : Nat, k ≤ s.size ∧ v3 = .int .i64 k ∧ Hid (∀ c ∈ s.data.toList.take k, ¬ (97 ≤ c.toNat ∧ c.toNat ≤ 122)) ∧ wr = w) (fun v3 _ => s.size - (intOf v3).toNat)
  case atStart => exact ⟨0, by omega, rfl, Lib.hid (by simp), rfl⟩
  case round =>
    obtain ⟨k, hk, rfl, hno, rfl⟩ := hrel
    by_cases hkl : k < s.size
    · have hk2 : (k : Int) < (s.size : Int) := by omega
      obtain ⟨y, hy⟩ : ∃ y, s[k]'hkl = y := ⟨_, rfl⟩
      have hyn := y.toNat_lt
      have hlim : k ≤ 100000 := by omega
      have HY := Lib.hid (show s.data.toList[k]? = some y by rw [← hy]; exact Lib.data_getElem? s k hkl)
      by_cases hc : 97 ≤ y.toNat ∧ y.toNat ≤ 122
      · have HR := Lib.hid (show capS s = false by
          unfold capS
          rw [List.all_eq_false]
          exact ⟨y, List.mem_of_getElem? HY.out, by rw [decide_eq_true_eq]; exact fun h => h hc⟩)
        have hc1 : (97 : Int) ≤ (y.toNat : Int) := by omega
        have hc2 : (y.toNat : Int) ≤ 122 := by omega
        clear hno
        go_wp2_with fail
        go_ret
        exact ⟨by rw [HR.out]; rfl, rfl⟩
      · have HN := Lib.hid (capAll_at hno.out HY.out hc)
        clear hno
        by_cases hc1 : 97 ≤ y.toNat
        · have hc2 : (97 : Int) ≤ (y.toNat : Int) := by omega
          have hc3 : ¬ (y.toNat : Int) ≤ 122 := by omega
          go_wp2_with fail
          go_roundw
          case measure => simp [intOf]; omega
          case rel => exact ⟨k + 1, by omega, by go_num, HN, by first | rfl | trivial⟩
        · have hc2 : ¬ (97 : Int) ≤ (y.toNat : Int) := by omega
          go_wp2_with fail
          go_roundw
          case measure => simp [intOf]; omega
          case rel => exact ⟨k + 1, by omega, by go_num, HN, by first | rfl | trivial⟩
    · obtain rfl : k = s.size := by omega
      have HR := Lib.hid (show capS s = true by
        unfold capS
        rw [List.all_eq_true]
        intro c hc
        rw [decide_eq_true_eq]
        exact hno.out c (by rw [List.take_of_length_le (by simp)]; exact hc))
      clear hno
      go_wp2_with fail
      go_ret
      exact ⟨by rw [HR.out]; rfl, rfl⟩

set_option maxHeartbeats 8000000 in
set_option maxRecDepth 100000 in
theorem works_any (w : World) : Calls Try.prog 22 #[] w (BelowPost (.bool true) w) := by
  have HP1 := Lib.hid (fun w => parse_any ⟨#[104, 111, 109, 101, 46, 116, 101, 108, 59, 116, 121, 112, 101, 61, 119, 111, 114, 107, 59, 118, 111, 105, 99, 101, 58, 49, 50]⟩ w (by decide))
  have HP2 := Lib.hid (fun w => parse_any ⟨#[97, 59, 58, 120]⟩ w (by decide))
  rw [read_works1] at HP1
  rw [read_works2] at HP2
  go_enter Try.func22, Try.ntmps22
  go_wp2_with fail
  refine (HP1.out _).mono ?_
  rintro e w1 ⟨ao, cap, rfl, hO1, hb1⟩
  simp only at hO1
  have hA1 : Below w1.heap.size w1 (w1.alloc (propC ⟨#[72, 79, 77, 69]⟩ ⟨#[84, 69, 76]⟩ ao 2 cap ⟨#[49, 50]⟩ none 0 0)) := (Below.refl _ _).alloc (Nat.le_refl _) _
  unfold propV
  go_wp2_with fail
  refine (HP2.out _).mono ?_
  rintro e w2 ⟨ao2, cap2, rfl, hO2, hb2⟩
  have hb12 := chain hA1 hb2
  have hbx : Below (w1.heap.size + 1) (w1.alloc (propC ⟨#[72, 79, 77, 69]⟩ ⟨#[84, 69, 76]⟩ ao 2 cap ⟨#[49, 50]⟩ none 0 0)) w2 := by have h := hb2; rw [World.size_alloc] at h; exact h
  obtain ⟨x0, x1, x2, x3, x4⟩ := boxCells hbx
  have hlt : w1.heap.size < w2.heap.size := by have := hb2.size; rw [World.size_alloc] at this; omega
  have hl := (hO1.below hb12).here
  obtain ⟨bb, oo, rfl, _, hbl, _, y0, y1⟩ := par_get hl (k := 0) rfl
  obtain ⟨bb2, oo2, e2, _, _, _, y2, y3⟩ := par_get hl (k := 1) rfl
  obtain ⟨rfl, rfl⟩ : bb2 = bb ∧ oo2 = oo := by injection e2 with e2; injection e2 with h1 h2; exact ⟨h1.symm, h2.symm⟩
  simp only [Nat.zero_mul, Nat.add_zero, Nat.one_mul] at y0 y1 y2 y3
  have hB2 := chain hb1 hb12
  unfold propV fail4
  clear hO1 hO2 hA1 hb12 hbx hl e2 HP1 HP2
  go_wp2_with fail
  go_ret
  exact ⟨rfl, hB2.trans ((Below.refl _ _).alloc hB2.size _)⟩

theorem flat_len {l : List Par} (h : ∀ c ∈ l, isPar c = true) : (l.flatMap parL).length ≤ 66 * l.length := by
  induction l with
  | nil => simp
  | cons c l ih =>
    have h1 := parL_len (h c (by simp))
    have h2 := ih (fun x hx => h x (by simp [hx]))
    rw [List.flatMap_cons, List.length_append, List.length_cons]; omega
theorem line_len {g n : ByteArray} {l : List Par} {v : ByteArray} {na : Nat} (h : chkP g n l v na = 0) : (lineL g n l v).length ≤ 5000 := by
  obtain ⟨h1, h2, h3, h4, _, h6, _⟩ := chk_ok h
  have hg : g.size ≤ 32 := by
    rcases h1 with h | h
    · omega
    · exact (fits_le (isName_fits h)).2
  have hn := (fits_le (isName_fits h2)).2
  have hp := preL_len hg
  have hf := flat_len h4
  unfold lineL
  simp only [List.length_append, List.length_singleton, data_len]
  omega
theorem toB_size (l : List UInt8) : (⟨l.toArray⟩ : ByteArray).size = l.length := by
  show l.toArray.size = _; simp
theorem all_take {l : List Par} {k : Nat} {c : Par} (h : ∀ x ∈ l.take k, x.1.size = 0 → capS x.2 = true) (hk : l[k]? = some c) (hc : c.1.size = 0 → capS c.2 = true) : ∀ x ∈ l.take (k + 1), x.1.size = 0 → capS x.2 = true := by
  intro d hd
  rw [take_at2 hk, List.mem_append, List.mem_singleton] at hd
  rcases hd with hd | rfl
  · exact h d hd
  · exact hc
theorem chk_na {g n : ByteArray} {l : List Par} {v : ByteArray} {na : Nat} (h : chkP g n l v na = 0) : na = 0 := (chk_ok h).2.2.2.2.1
set_option maxHeartbeats 16000000 in
set_option maxRecDepth 100000 in
theorem law_back (cs : Array Value) (p : ByteArray × ByteArray × List Par × ByteArray × Nat) (s : ByteArray) (w : World) (h : rProp.rel (· < w.heap.size) w cs.toList p) :
    Calls Try.prog 6 #[.agg cs, .string s] w (TruePost w) := by
  obtain ⟨g, n, l, v, ao, cap, aa, na, ca, hv, hl, _, _, hvs⟩ := prop_arg h
  rw [hv]
  clear hv h
  by_cases hs : l.length ≤ 20 ∧ v.size ≤ 5000
  · by_cases hsz : s.size ≤ 3000
    · have HG := Lib.hid (great_any g n v aa na ca ao l.length cap)
      have hsz2 : ¬ (3000 : Int) < (s.size : Int) := by omega
      have HS := Lib.hid (fun w => parse_any s w (by omega))
      have HW := Lib.hid works_any
      obtain ⟨hs1, hs2⟩ := hs
      unfold propV
      go_enter Try.func6, Try.ntmps6
      go_wp2_with fail
      refine (HW.out _).mono ?_
      rintro e w0 ⟨rfl, hb0⟩
      have hW0 : w.heap.size + 1 ≤ w0.heap.size := by have := hb0.size; simpa using this
      rw [World.size_alloc] at hb0
      obtain ⟨x0, x1, x2, x3, x4⟩ := boxCells hb0
      go_wp2_with fail
      refine (HG.out _ hs1 hs2).mono ?_
      rintro e w1 ⟨rfl, hb1⟩
      replace hb1 := hb0.trans (hb1.mono hW0)
      clear x0 x1 x2 x3 x4 hb0
      have hW : w.heap.size + 1 ≤ w1.heap.size := by have := hb1.size; rw [World.size_alloc] at this; omega
      obtain ⟨x0, x1, x2, x3, x4⟩ := boxCells hb1
      have hB1 : Below w.heap.size w w1 := ((Below.refl _ _).alloc (Nat.le_refl _) _).trans (hb1.mono (by omega))
      go_wp2_with fail
      refine (own_any _ _ _ _ _ _ _ _ _ _ (hl.at'.old hB1).here hl.nil (by omega)).mono ?_
      rintro e w2 ⟨ao2, cap2, rfl, hO2, hb2⟩
      have hB2 := chain hB1 hb2
      have hb12 := hb1.trans (hb2.mono hW)
      have hz2 := hb2.size
      have HP1 := Lib.hid (print_any g n v aa na ca ao2 cap2 l w2 hO2.here (by omega) (by omega))
      clear hO2 x0 x1 x2 x3 x4 HG HW
      unfold propV at *
      go_wp2_with fail
      refine HP1.out.mono ?_
      rintro e w3 ⟨rfl, hb3⟩
      have hB3 := chain hB2 hb3
      have hb13 := hb12.trans (hb3.mono (by omega))
      have hz3 := hb3.size
      have hl3 := hl.at'.old hB3
      clear HP1 hb1 hb2 hb3 hb12 hB1 hB2
      by_cases hk0 : chkP g n l v na = 0
      case' pos =>
        have hna := chk_na hk0
        subst hna
        have HK := Lib.hid hk0
        have hpr : printP g n l v 0 = (lineL g n l v, 0) := by unfold printP; rw [if_pos hk0]
        rw [hpr]
        clear hpr hk0
        have HPT := Lib.hid (fun w => parse_any ⟨(lineL g n l v).toArray⟩ w (by rw [toB_size]; have := line_len HK.out; omega))
        have HBack := Lib.hid (line_back HK.out)
        generalize (⟨(lineL g n l v).toArray⟩ : ByteArray) = t at HPT HBack ⊢
        generalize readP t = x at HPT HBack
        obtain ⟨⟨g', n', ps, v'⟩, at', er⟩ := x
        obtain ⟨x0, x1, x2, x3, x4⟩ := boxCells hb13
        have hlt3 : w.heap.size < w3.heap.size := by omega
        go_wp2_with fail
        refine (HPT.out _).mono ?_
        rintro e w4 ⟨ao4, cap4, rfl, hO4, hb4⟩
        unfold propV
        simp only at hO4
        clear x0 x1 x2 x3 x4
        have hb14 := hb13.trans (hb4.mono (by omega))
        have hA5 : Below w4.heap.size w4 (w4.alloc (propC g' n' ao4 ps.length cap4 v' none 0 0)) := (Below.refl _ _).alloc (Nat.le_refl _) _
        have hz4 := hb4.size
        have hb15 := hb14.trans (hA5.mono (by omega))
        have hO5 := hO4.below hA5
        have hB5 := chain (chain hB3 hb4) hA5
        obtain ⟨y0, y1, y2, y3, y4⟩ := boxCells (g := g') (n := n') (v := v') (ao := ao4) (len := ps.length) (cap := cap4) (aa := none) (na := 0) (ca := 0) (Below.refl (w4.heap.size + 1) (w4.alloc (propC g' n' ao4 ps.length cap4 v' none 0 0)))
        obtain ⟨x0, x1, x2, x3, x4⟩ := boxCells hb15
        have hsz5 : (w4.alloc (propC g' n' ao4 ps.length cap4 v' none 0 0)).heap.size = w4.heap.size + 1 := World.size_alloc _ _
        go_wp2_with fail
        generalize hw5 : w4.alloc (propC g' n' ao4 ps.length cap4 v' none 0 0) = w5 at hO5 hB5 x0 x1 x2 x3 x4 y0 y1 y2 y3 y4 hb15 hsz5 hA5 ⊢
        clear hw5 hA5 hO4 hb14 hb4
        have hl5 := hl.at'.old hB5
        have hlt5 : w.heap.size < w5.heap.size := by omega
        go_loopw [10] (fun v10 wr => ∃ k : Nat, k ≤ l.length ∧ v10 = .int .i64 k ∧ Hid (∀ c ∈ l.take k, c.1.size = 0 → capS c.2 = true) ∧ wr = w5) (fun v10 _ => l.length - (intOf v10).toNat)
        case atStart => exact ⟨0, by omega, rfl, Lib.hid (by simp), rfl⟩
        case' round =>
          obtain ⟨k, hk, rfl, hno, rfl⟩ := hrel
          by_cases hkl : k < l.length
          case pos =>
            obtain ⟨c, hcl⟩ := some_at hkl
            obtain ⟨bb, oo, rfl, hs1, hb4, hok, z0, z1⟩ := par_get hl5 hcl
            have hk2 : (k : Int) < (l.length : Int) := by omega
            have hlim : k ≤ 100000 := by omega
            have he := empty_iff c.1
            have HCL := Lib.hid hcl
            clear hcl
            by_cases hc0 : c.1.size = 0
            · rw [decide_eq_true hc0] at he
              have hcv : c.2.size ≤ 100000 := by
                have := isPar_fits ((chk_ok HK.out).2.2.2.1 c (List.mem_of_getElem? HCL.out)); omega
              have HCp := Lib.hid (fun w => capital_law c.2 w hcv)
              cases hcap : capS c.2 with
              | true =>
                rw [hcap] at HCp
                have HN := Lib.hid (all_take hno.out HCL.out (fun _ => hcap))
                clear hno hc0 hcap hcv
                go_wp2_with fail
                refine (HCp.out _).mono ?_
                rintro e w6 ⟨rfl, rfl⟩
                go_wp2_with fail
                go_roundw
                case measure => simp [intOf]; omega
                case rel => exact ⟨k + 1, by omega, by go_num, HN, by first | rfl | trivial⟩
              | false =>
                rw [hcap] at HCp
                clear hno hc0 hcap hcv
                go_wp2_with fail
                refine (HCp.out _).mono ?_
                rintro e w6 ⟨rfl, rfl⟩
                go_wp2_with fail
                go_ret
                exact ⟨rfl, hB5⟩
            · rw [decide_eq_false hc0] at he
              have HN := Lib.hid (all_take hno.out HCL.out (fun h => absurd h hc0))
              clear hno hc0
              go_wp2_with fail
              go_roundw
              case measure => simp [intOf]; omega
              case rel => exact ⟨k + 1, by omega, by go_num, HN, by first | rfl | trivial⟩
          case' neg =>
            obtain rfl : k = l.length := by omega
            obtain ⟨⟨rfl, rfl, rfl, rfl⟩, rfl, rfl⟩ : (g = g' ∧ n = n' ∧ l = ps ∧ v = v') ∧ 0 = at' ∧ 0 = er := by
              have h := HBack.out (fun c hc => hno.out c (by rw [List.take_length]; exact hc))
              simp only [Prod.mk.injEq] at h
              obtain ⟨⟨h1, h2, h3, h4⟩, h5, h6⟩ := h
              exact ⟨⟨h1.symm, h2.symm, h3.symm, h4.symm⟩, h5.symm, h6.symm⟩
            have HSm := Lib.hid (same_prop g n v aa none 0 ca 0 ao ao4 cap cap4 l wr hl5.here hO5.here (by omega))
            unfold propV at HSm
            clear hno HBack
            go_wp2_with fail
            refine HSm.out.mono ?_
            rintro e w6 ⟨rfl, hb6⟩
            replace hB5 := chain hB5 hb6
            clear HSm hb6 HK HPT hb13 hb15 hl3 hl5 x0 x1 x2 x3 x4 y0 y1 y2 y3 y4 hlt3 hlt5 hz3 hz4 hz2 hkl hk hsz5 hB3
            go_wp2_with fail
      case' neg =>
        have hpr : printP g n l v na = ([], chkP g n l v na) := by unfold printP; rw [if_neg hk0]
        rw [hpr]
        have hk0e : (chkP g n l v na == 0) = false := by simpa using hk0
        clear hpr hk0
        generalize chkP g n l v na = q at hk0e ⊢
        have hB5 := hB3
        go_wp2_with fail
      all_goals
        obtain ⟨xs, hxs⟩ : ∃ x, readP s = x := ⟨_, rfl⟩
        have HRS := Lib.hid hxs
        rw [hxs] at HS
        clear hxs
        obtain ⟨⟨g2, n2, l2, v2⟩, at2, er2⟩ := xs
        refine (HS.out _).mono ?_
        rintro e w7 ⟨ao7, cap7, rfl, hO7, hb7⟩
        unfold propV
        simp only at hO7
        have hB7 := chain hB5 hb7
        clear hB5 hb7
        have hA8 : Below w7.heap.size w7 (w7.alloc (propC g2 n2 ao7 l2.length cap7 v2 none 0 0)) := (Below.refl _ _).alloc (Nat.le_refl _) _
        have hO8 := hO7.below hA8
        have hB8 := chain hB7 hA8
        obtain ⟨x0, x1, x2, x3, x4⟩ := boxCells (g := g2) (n := n2) (v := v2) (ao := ao7) (len := l2.length) (cap := cap7) (aa := none) (na := 0) (ca := 0) (Below.refl (w7.heap.size + 1) (w7.alloc (propC g2 n2 ao7 l2.length cap7 v2 none 0 0)))
        have hsz8 : (w7.alloc (propC g2 n2 ao7 l2.length cap7 v2 none 0 0)).heap.size = w7.heap.size + 1 := World.size_alloc _ _
        clear hO7 hB7
        have hbb : Below (w7.heap.size + 1) (w7.alloc (propC g2 n2 ao7 l2.length cap7 v2 none 0 0)) (w7.alloc (propC g2 n2 ao7 l2.length cap7 v2 none 0 0)) := Below.refl _ _
        by_cases her : er2 = 0
        · subst her
          have HOK := Lib.hid (read_ok HRS.out)
          have hlen := (chk_ok HOK.out.1).2.2.1
          have hv24 := (chk_ok HOK.out.1).2.2.2.2.2.1
          have HBk := Lib.hid (line_back HOK.out.1 HOK.out.2.1)
          have HPr := Lib.hid (fun w hl => print_any g2 n2 v2 none 0 0 ao7 cap7 l2 w hl (by omega) (by omega))
          rw [show printP g2 n2 l2 v2 0 = (lineL g2 n2 l2 v2, 0) by unfold printP; rw [if_pos HOK.out.1]] at HPr
          have HPU := Lib.hid (fun w => parse_any ⟨(lineL g2 n2 l2 v2).toArray⟩ w (by rw [toB_size]; have := line_len HOK.out.1; omega))
          rw [HBk.out] at HPU
          have hus : (⟨(lineL g2 n2 l2 v2).toArray⟩ : ByteArray).size = s.size := by rw [toB_size]; exact HOK.out.2.2
          unfold propV PrintPost at HPr
          dsimp only at HPr
          generalize (⟨(lineL g2 n2 l2 v2).toArray⟩ : ByteArray) = u at HPU hus HBk HPr
          go_wp2_with fail
          refine (HPr.out _ hO8.here).mono ?_
          rintro e w9 ⟨rfl, hb9⟩
          have hB9 := chain hB8 hb9
          have hb89 := hbb.trans (hb9.mono (by omega))
          have hO9 := hO8.below hb9
          have hz9 := hb9.size
          rw [hsz8] at hz9
          clear x0 x1 x2 x3 x4 hbb hb9 hA8 hO8 hB8
          go_wp2_with fail
          refine (HPU.out _).mono ?_
          rintro e w10 ⟨ao10, cap10, rfl, hO10, hb10⟩
          unfold propV
          simp only at hO10
          have hA11 : Below w10.heap.size w10 (w10.alloc (propC g2 n2 ao10 l2.length cap10 v2 none 0 0)) := (Below.refl _ _).alloc (Nat.le_refl _) _
          have hb911 := chain hb10 hA11
          have hB11 := chain hB9 hb911
          have hz10 := hb10.size
          obtain ⟨x0, x1, x2, x3, x4⟩ := boxCells (hb89.trans (hb10.mono (by omega)))
          have hlt10 : w7.heap.size < w10.heap.size := by omega
          have HSm := Lib.hid (same_prop g2 n2 v2 none none 0 0 0 ao10 ao7 cap10 cap7 l2 _ (hO10.below hA11).here (hO9.below hb911).here (by omega))
          unfold propV at HSm
          clear hO9 hO10 hA11 hb911 hb10 hB9 hb89 HPU HPr HBk HOK HRS
          go_wp2_with fail
          refine HSm.out.mono ?_
          rintro e w12 ⟨rfl, hb12⟩
          go_wp2_with fail
          go_ret
          exact ⟨rfl, chain hB11 hb12⟩
        · have hne : (er2 != 0) = true := by simpa using her
          clear HRS
          go_wp2_with fail
          go_ret
          exact ⟨rfl, hB8⟩
    · have HG := Lib.hid (great_any g n v aa na ca ao l.length cap)
      have hsz2 : (3000 : Int) < (s.size : Int) := by omega
      have HW := Lib.hid works_any
      obtain ⟨hs1, hs2⟩ := hs
      unfold propV
      go_enter Try.func6, Try.ntmps6
      go_wp2_with fail
      refine (HW.out _).mono ?_
      rintro e w0 ⟨rfl, hb0⟩
      have hW0 : w.heap.size + 1 ≤ w0.heap.size := by have := hb0.size; simpa using this
      rw [World.size_alloc] at hb0
      obtain ⟨x0, x1, x2, x3, x4⟩ := boxCells hb0
      go_wp2_with fail
      refine (HG.out _ hs1 hs2).mono ?_
      rintro e w1 ⟨rfl, hb1⟩
      go_wp2_with fail
      go_ret
      exact ⟨rfl, ((Below.refl _ _).alloc (Nat.le_refl _) _).trans ((hb0.trans (hb1.mono hW0)).mono (by omega))⟩
  · have HG := Lib.hid (great_yes g n v aa na ca ao l.length cap)
    have HW := Lib.hid works_any
    unfold propV
    go_enter Try.func6, Try.ntmps6
    go_wp2_with fail
    refine (HW.out _).mono ?_
    rintro e w0 ⟨rfl, hb0⟩
    have hW0 : w.heap.size + 1 ≤ w0.heap.size := by have := hb0.size; simpa using this
    rw [World.size_alloc] at hb0
    obtain ⟨x0, x1, x2, x3, x4⟩ := boxCells hb0
    go_wp2_with fail
    refine (HG.out _ hs).mono ?_
    rintro e w1 ⟨rfl, hb1⟩
    go_wp2_with fail
    go_ret
    exact ⟨rfl, ((Below.refl _ _).alloc (Nat.le_refl _) _).trans ((hb0.trans (hb1.mono hW0)).mono (by omega))⟩

theorem back_own : ownKnob Try.prog.godebug = none := by kernel_rfl
theorem back_laid : laidOutB Try.prog = true := by kernel_rfl

set_option maxRecDepth 100000 in
theorem back_lifted (os : Os) (started : os.Started) (H : Type) (enc : TypeId × Value → H) :
    ReturnsInHanded {} Try.checked os 6 .any (Rows.propBackSpec.pre6 enc Try.prog Try.f6 Rows.propBackRow.domain false) (Rows.propBackSpec.post enc Try.prog Try.f6 false true false false) := by
  refine law_lifted (C := Try.checked) 4 back_own started (by kernel_rfl) Try.func6 back_laid rfl (by kernel_rfl) Try.underlying4 (by kernel_rfl)
    (fun ds h => by match ds, h with | [_, _], _ => rfl)
    (ChangeSpec.witness6 (enc := enc) (C := Try.checked) false ⟨#[], #[.agg #[.string ByteArray.empty, .string ByteArray.empty, .slice none 0 0, .string ByteArray.empty, .slice none 0 0], .string ByteArray.empty], []⟩ 8 (by kernel_rfl) (by kernel_rfl) (by kernel_rfl) (by kernel_rfl)) ?_
  intro W base args ds p hval0 hA0 hfz hz0
  have hz : ∀ (j : Nat) t d, Try.f6.params.toList[j]? = some t → ds[j]? = some d → ∀ n ∈ d.weights Try.prog t, n ≤ reachBytes := hz0
  have hval : ∀ (j : Nat) t v, Try.f6.params[j]? = some t → args[j]? = some v → Value.okWide Try.prog W .any base t v := hval0
  have hA : DataW.TrodAll enc Try.prog W 0 (fun _ => true) true Try.f6.params.toList args.toList ds p := hA0
  rw [Try.params6] at hA hval
  obtain ⟨v0, vs0, d0, ds0, p0, q0, hargs, rfl, rfl, h0, r0⟩ := trodAll_cons hA
  obtain ⟨v1, vs1, d1, ds1, p1, q1, rfl, rfl, rfl, h1, r1⟩ := trodAll_cons r0
  obtain ⟨rfl, rfl, rfl⟩ := trodAll_nil r1
  obtain rfl : args = #[v0, v1] := by cases args; simp_all
  obtain ⟨l0, cs0, rfl, c0⟩ := Rd.arg_struct at_25 Try.underlying25 (hval 0 25 v0 rfl rfl) h0 (hz 0 25 d0 rfl rfl)
  obtain ⟨a1, rfl, _, _, _⟩ := open_string Try.underlying9 (hval 1 9 v1 rfl rfl) h1
  exact law_back cs0 l0 a1 W c0

theorem back_holds : Rows.PropBackSaid :=
  OpenClaim.holds_of_wide 6 Try.f6 rfl rfl rfl rfl rfl rfl rfl ⟨rfl, rfl, rfl, rfl, rfl⟩ rfl rfl rfl rfl rfl (by kernel_rfl) Try.func6 (by kernel_rfl)
    (of_decide_eq_true (by kernel_rfl)) (by unfold Func.isWrapper; rw [if_neg (of_decide_eq_false (by kernel_rfl))]; exact ⟨rfl, rfl⟩)
    (fun os started H enc _ => back_lifted os started H enc)

end Go.Proofs.Ytioeobkneikgfaa
